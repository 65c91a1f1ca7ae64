/- Walks and laws that the claim's last text stands on, several texts in one file: PgB, Apz, PgC, RtC. Under the hypotheses that each theorem states. -/
import Derived.Laws.AppendOwn
import Derived.Laws.MakeOwn
import Derived.Test.YtihljjfnjclefaaMRta
import Derived.Test.YtihljjfnjclefaaMRtb
import Derived.Test.YtihljjfnjclefaaMRtc
import Derived.Test.YtihljjfnjclefaaMRtd
/- page: the walk through crcOf. -/
set_option linter.unusedVariables false
set_option linter.unusedSimpArgs false
namespace Go.Proofs.Ytihljjfnjclefaa
open Go.ChangeShapes Go.WideShapes Go.ChangeAt Go.RowKit
attribute [local go_sem] nb_nonneg nb_lt8 nb_lt64
set_option maxRecDepth 100000

theorem crc_three (a b c : List Byte) : crcOns crcT [a, b, c] = crcSum (a ++ (b ++ c)) := by
  unfold crcOns crcSum
  simp only [List.foldl_cons, List.foldl_nil, crcOn_append, List.append_assoc]
set_option maxHeartbeats 1000000 in
theorem pg_crcOf (b : List Byte) (bb bo c : Nat) (w : World) (hl : b.length = 4096) (hc : 4096 ≤ c) (hm : c ≤ maxLen) (hr : Rd w (some ⟨bb, bo, none⟩) b) :
    Calls Try.prog 62 #[.slice (some ⟨bb, bo, none⟩) 4096 c] w fun e w' => e = .returned (.int .u32 (nb (crcSum (b.take 12 ++ (z4 ++ b.drop 16))))) ∧ FB w w' := by
  have HR := Lib.hid hr
  have HL := Lib.hid hl
  have HM := Lib.hid hm
  have hcm : (c : Int) ≤ 9223372036854775807 := by unfold maxLen at hm; omega
  have hcz : (4096 : Int) ≤ (c : Int) := by omega
  have hc2 : (16 : Int) ≤ (c : Int) := by omega
  have hc3 : (12 : Int) ≤ (c : Int) := by omega
  have hc4 : 16 < c := by omega
  have hc5 : ¬ c = 16 := by omega
  obtain ⟨C, hmk, hC⟩ := mk_bytes 4 4 rfl (by omega)
  have HC := Lib.hid hC
  have HCC := Lib.hid hc
  clear hr hl hm hC hc
  go_enter Try.func62, Try.ntmps62
  go_wp2_with fail
  obtain ⟨W0, hW0⟩ : ∃ W0 : World, W0 = w := ⟨_, rfl⟩
  rw [← hW0]
  refine region_sch (E := FB) ((0, true) :: (1, true) :: (3, true) :: (4, true) :: (2, false) :: (5, false) :: (6, false) :: (7, true) :: []) (by kernel_rfl) FB.refl fb_trans (fun _ _ d _ _ h => by cases d <;> exact h) (by kernel_rfl) ?_
  intro ops hops0
  have hops := Lib.hid hops0
  clear hops0
  have HF : FB W0 W0.drew := (FB.refl _).drew
  generalize W0.drew = wF at *
  have HFq := Lib.hid (show FB w wF from by rw [← hW0]; exact HF)
  clear hW0 HF
  have HF := FB.refl wF
  repeat (refine sch_take (o := ?_) (v := ?_) (a' := ?_) (at_of hops.out ?_) ?_ (fun W hW => ?_) ?_ ?_; rotate_left 3; (focus (simp only [List.getElem?_toArray, List.getElem?_cons_zero, List.getElem?_cons_succ]; rfl)); (focus (rw [hops.out]; rfl)); (focus (go_simp; with_reducible rfl)); (focus (simp only [Act.put, List.setIfInBounds_toArray, List.set_cons_zero, List.set_cons_succ]; rfl)))
  (refine sch_run (o := ?_) (v := ?_) (a' := ?_) (w' := ?_) (at_of hops.out ?_) ?_ ?_ ?_ ?_ ?_; rotate_left 4; (focus (simp only [List.getElem?_toArray, List.getElem?_cons_zero, List.getElem?_cons_succ]; rfl)); (focus (rw [hops.out]; rfl)); (focus (go_simp; constructor <;> with_reducible rfl)); (focus (exact (FB.refl _).alloc _)); (focus (simp only [Act.put, List.setIfInBounds_toArray, List.set_cons_zero, List.set_cons_succ]; rfl)))
  (refine sch_run (o := ?_) (v := ?_) (a' := ?_) (w' := ?_) (at_of hops.out ?_) ?_ ?_ ?_ ?_ ?_; rotate_left 4; (focus (simp only [List.getElem?_toArray, List.getElem?_cons_zero, List.getElem?_cons_succ]; rfl)); (focus (rw [hops.out]; rfl)); (focus (go_simp; constructor <;> with_reducible rfl)); (focus (exact (FB.refl _).alloc _)); (focus (simp only [Act.put, List.setIfInBounds_toArray, List.set_cons_zero, List.set_cons_succ]; rfl)))
  have hb1 := (HFq.out.alloc (.cells C 5)).rd HR.out
  have hz : Rd (wF.alloc (.cells C 5)) (some ⟨wF.heap.size, 0, none⟩) z4 := by
    have := RdV.lit wF (vbs (List.replicate 4 0#8)) 5 rfl
    rw [← HC.out] at this
    exact this
  have hrl := RdL.lit (w := wF.alloc (.cells C 5)) (ls := [b.take 12, z4, b.drop 16]) (vs := [.slice (some ⟨bb, bo, none⟩) 12 c, .slice (some ⟨wF.heap.size, 0, none⟩) 4 4, .slice (some ⟨bb, bo + 16, none⟩) 4080 (c - 16)]) (t := 22) rfl (fun i hi => by
    have := HL.out
    have h1 := HCC.out
    have h2 := HM.out
    match i, hi with
    | 0, _ => exact ⟨some ⟨bb, bo, none⟩, c, by simp [HL.out], by simp; omega, h2, hb1.take 12⟩
    | 1, _ => exact ⟨some ⟨wF.heap.size, 0, none⟩, 4, by simp [z4], by simp [z4], by simp [maxLen], hz⟩
    | 2, _ => exact ⟨some ⟨bb, bo + 16, none⟩, c - 16, by simp [HL.out], by simp [HL.out]; omega, by omega, hb1.drop 16⟩)
  have hcall := (crc_Parts [b.take 12, z4, b.drop 16] (some ⟨(wF.alloc (.cells C 5)).heap.size, 0, none⟩) 3 _ (by simp) (by simp [maxLen]) hrl).mono (fun e w' h => And.intro h.1 (show FB _ w' from h.2))
  replace HF := (HF.alloc (.cells C 5)).alloc (.cells #[.slice (some ⟨bb, bo, none⟩) 12 c, .slice (some ⟨wF.heap.size, 0, none⟩) 4 4, .slice (some ⟨bb, bo + 16, none⟩) 4080 (c - 16)] 22)
  rw [crc_three] at hcall
  simp only [World.size_alloc, List.length_cons, List.length_nil, Nat.zero_add, Nat.reduceAdd] at hcall
  have HCL := Lib.hid hcall
  clear hb1 hz hrl hcall hmk
  (refine sch_call (o := ?_) (f := ?_) (args := ?_) (at_of hops.out ?_) ?_ ?_ ?_; rotate_left 3; (focus (simp only [List.getElem?_toArray, List.getElem?_cons_zero, List.getElem?_cons_succ]; rfl)); (focus (rw [hops.out]; rfl)); (focus (go_simp; constructor <;> with_reducible rfl)); (first | ((with_reducible refine (HCL.out).mono ?_); rintro e w' ⟨rfl, hb⟩; refine ⟨_, rfl, hb, ?_⟩; intro a' ha'; simp only [Act.put, List.setIfInBounds_toArray, List.set_cons_zero, List.set_cons_succ] at ha'; subst ha'; replace HF := HF.call hb; clear hb)))
  repeat (refine sch_take (o := ?_) (v := ?_) (a' := ?_) (at_of hops.out ?_) ?_ (fun W hW => ?_) ?_ ?_; rotate_left 3; (focus (simp only [List.getElem?_toArray, List.getElem?_cons_zero, List.getElem?_cons_succ]; rfl)); (focus (rw [hops.out]; rfl)); (focus (go_simp; with_reducible rfl)); (focus (simp only [Act.put, List.setIfInBounds_toArray, List.set_cons_zero, List.set_cons_succ]; rfl)))
  refine sch_done ?_
  have HE := Lib.hid (HFq.out.trans HF)
  clear hops HF
  go_wp2
  go_ret
  exact ⟨rfl, HE.out⟩
end Go.Proofs.Ytihljjfnjclefaa
/- append(b, make([]byte, n)...): noughts behind a row of the call's own. -/
set_option linter.unusedVariables false
set_option linter.unusedSimpArgs false
namespace Go.Proofs.Ytihljjfnjclefaa
open Go.ChangeShapes Go.WideShapes Go.ChangeAt Go.RowKit

theorem zeroCells_list (z : Value) (h : z.cells = #[z]) (n : Nat) : (Builtin.zeroCells z.cells n).toList = List.replicate n z := by
  rw [h]
  have : Builtin.zeroCells #[z] n = madeCells #[z] n := by simp [Builtin.zeroCells, madeCells]
  rw [this, toList_madeCells_one]
theorem run_append_zeros_room {P : Program} (w : World) (t tn ty e : TypeId) (i : TypeInfo) (z : Value) (kn : IntKind) (ht : P.underlying t = some (.slice e)) (htn : P.underlying tn = some (.int kn)) (hi : P.info? e = some i) (hz : i.zero = some z) (hs1 : i.size = 1) (hb1 : i.bytes = 1) (hzc : z.cells = #[z]) (hz1 : z.oneCell' = true)
    (g sLen sCap : Nat) (cur : Array Value) (hg : w.heap[g]? = some (.cells cur e (0, 0))) (n : Nat) (h0 : 0 < n) (hn : n ≤ 1000000000)
    (hroom : sLen + n ≤ sCap) (hfit : sLen + n ≤ cur.size) :
    (Builtin.append_ #[t, tn] ty #[.slice (some ⟨g, 0, none⟩) sLen sCap, .int .i64 (n : Int)]).run P w =
      .ok (.slice (some ⟨g, 0, none⟩) (sLen + n) sCap) (w.setRow g (cur.toList.take sLen ++ List.replicate n z ++ cur.toList.drop (sLen + n)).toArray) := by
  have hw : IntKind.i64.wrap (n : Int) = n := by rw [IntKind.wrap_i64]; omega
  have hneg : ¬ ((n : Int) < 0) := by omega
  have h48 : ¬ (281474976710656 < (n : Int)) := by omega
  have hn0 : ¬ n = 0 := by omega
  have hst := run_storeCells_at P g sLen e (List.replicate n z) 0 cur w hg (by simpa using hfit) (fun u hu => by rw [List.eq_of_mem_replicate hu]; exact hz1)
  simp only [Nat.add_zero, List.length_replicate] at hst
  have hzl := zeroCells_list z hzc n
  simp [Builtin.append_, run_underlying ht, run_underlying htn, sizeOf, typeInfo, zeroValue, hi, hz, hs1, hb1, asInt, asIntOf, hw, hneg, h48, hn0, hroom, Addr.add_lit, hzl, hst]
theorem run_append_zeros_grow {P : Program} (w : World) (t tn ty e : TypeId) (i : TypeInfo) (z : Value) (kn : IntKind) (ht : P.underlying t = some (.slice e)) (htn : P.underlying tn = some (.int kn)) (hi : P.info? e = some i) (hz : i.zero = some z) (hs1 : i.size = 1) (hb1 : i.bytes = 1) (hzc : z.cells = #[z])
    (b : Addr) (sLen sCap : Nat) (olds : List Value) (hlo : olds.length = sLen) (holds : ∀ j v, olds[j]? = some v → w.cell? (b.add j) = some v) (n : Nat) (h0 : 0 < n) (hn : sLen + n ≤ 1000000000)
    (hg : sCap < sLen + n) (hfit : Builtin.nextslicecap (sLen + n) sCap ≤ 281474976710656) :
    (Builtin.append_ #[t, tn] ty #[.slice (some b) sLen sCap, .int .i64 (n : Int)]).run P w =
      .ok (.slice (some ⟨w.heap.size, 0, none⟩) (sLen + n) (grownCap w (sLen + n) sCap e))
        (w.drew.alloc (.cells (olds.toArray ++ (List.replicate n z).toArray ++ Builtin.zeroCells z.cells (grownCap w (sLen + n) sCap e - (sLen + n))) e)) := by
  have hw : IntKind.i64.wrap (n : Int) = n := by rw [IntKind.wrap_i64]; omega
  have hneg : ¬ ((n : Int) < 0) := by omega
  have h48 : ¬ (281474976710656 < (n : Int)) := by omega
  have hn0 : ¬ n = 0 := by omega
  have hnr : ¬ (sLen + n ≤ sCap) := by omega
  have h63' : ¬ (9223372036854775807 < ((sLen : Int) + (n : Int))) := by omega
  have h48' : ¬ (281474976710656 < Builtin.nextslicecap (sLen + n) sCap) := by omega
  have hfo := run_firstCells_some (P := P) w.drew 1 sLen b sLen sCap olds (by simpa using hlo) (by simpa using holds)
  have hzl : Builtin.zeroCells z.cells n = (List.replicate n z).toArray := Array.ext' (by rw [zeroCells_list z hzc n])
  simp [Builtin.append_, run_underlying ht, run_underlying htn, sizeOf, typeInfo, zeroValue, hi, hz, hs1, hb1, asInt, asIntOf, hw, hneg, h48, hn0, hnr, h63', h48', Question.forced, hfo, newRow, grownCap, hzl]
/-- Noughts behind a row of the call's own. -/
theorem run_append_zeros (w : World) (base : Nat) (v : Value) (xs : List Byte) (hown : Own w base v xs) (hx : 0 < xs.length) (n : Nat) (h0 : 0 < n) (hlen : xs.length + n ≤ 1000000000) (hbase : base ≤ w.heap.size) :
    ∃ v' w', (∀ ty, (Builtin.append_ #[22, 3] ty #[v, .int .i64 (n : Int)]).run Try.prog w = .ok v' w') ∧ Own w' base v' (xs ++ List.replicate n 0#8) ∧ w.grownBy w' v.ownBlock := by
  obtain ⟨i, hi, hz, hsz, hby⟩ := info_parts info_u8
  have hl2 : (vbs xs ++ List.replicate n (Value.int .u8 0)).length = xs.length + n := by simp [vbs_length]
  have hv : vbs (xs ++ List.replicate n 0#8) = vbs xs ++ List.replicate n (Value.int .u8 0) := by rw [vbs_append, vbs_zeros]
  unfold Own OwnV at hown ⊢
  rw [hv, hl2]
  rw [vbs_length] at hown
  have hxl : (vbs xs).length = xs.length := vbs_length xs
  rcases hown.2 with ⟨rfl, hz0⟩ | ⟨g, cap, cur, rfl, hbg, hg, hnc, hcm, hcs, htake⟩
  · omega
  · have hcs' : cur.size = cap := by simpa using hcs
    have ht' : cur.toList.take xs.length = vbs xs := by simpa using htake
    by_cases hroom : xs.length + n ≤ cap
    · have hr := fun ty => run_append_zeros_room (P := Try.prog) w 22 3 ty 5 i _ .i64 Try.underlying22 Try.underlying3 hi hz hsz hby rfl rfl g xs.length cap cur hg n h0 (by omega) hroom (by omega)
      refine ⟨_, _, hr, ⟨by rw [hl2]; omega, .inr ⟨g, cap, _, rfl, hbg, setRow_heap w g cur _ _ _ hg, hroom, hcm, ?_, ?_⟩⟩, ⟨rfl, rfl, rfl, by simp, fun k _ hk => setRow_other w g k _ (fun e => hk (by simp [Value.ownBlock, e]))⟩⟩
      · simp only [List.size_toArray, List.length_append, List.length_take, List.length_drop, Array.length_toList, List.length_replicate]
        omega
      · rw [ht']
        have : (xs.length + n) * 1 = (vbs xs ++ List.replicate n (Value.int .u8 0)).length := by rw [hl2]; omega
        rw [this]
        exact List.take_left
    · have holds : ∀ j u, (vbs xs)[j]? = some u → w.cell? ((⟨g, 0, none⟩ : Addr).add j) = some u := hown.cells (g := g) rfl
      have hr := fun ty => run_append_zeros_grow (P := Try.prog) w 22 3 ty 5 i _ .i64 Try.underlying22 Try.underlying3 hi hz hsz hby rfl ⟨g, 0, none⟩ xs.length cap (vbs xs) hxl holds n h0 hlen (by omega) (by have := growslice_fits (need := xs.length + n) (old := cap) (bytes := 1) (by omega) (by omega); omega)
      have hge := grownCap_ge w (xs.length + n) cap 5
      have hcm2 : grownCap w (xs.length + n) cap 5 ≤ maxLen := grownCap_le_maxLen w (xs.length + n) cap 5 (by simp [maxLen]; omega)
      refine ⟨_, _, hr, ⟨by rw [hl2]; omega, .inr ⟨w.heap.size, _, _, rfl, hbase, heap_alloc_new w.drew _, hge, hcm2, ?_, ?_⟩⟩, ⟨rfl, rfl, rfl, by simp, fun k hk _ => ((FB.refl w.drew).alloc _).block k hk⟩⟩
      · simp only [Array.size_append, List.size_toArray, size_zeroCells, hxl, List.length_replicate]
        have : (Value.int IntKind.u8 0).cells.size = 1 := rfl
        rw [this]; omega
      · simp only [Array.toList_append, List.append_assoc]
        rw [← List.append_assoc]
        have : (xs.length + n) * 1 = (vbs xs ++ List.replicate n (Value.int .u8 0)).length := by rw [hl2]; omega
        rw [this]
        exact List.take_left
end Go.Proofs.Ytihljjfnjclefaa
/- page: the walk through Bytes. -/
set_option linter.unusedVariables false
set_option linter.unusedSimpArgs false
namespace Go.Proofs.Ytihljjfnjclefaa
open Go.ChangeShapes Go.WideShapes Go.ChangeAt Go.RowKit
attribute [local go_sem] nb_nonneg nb_lt8 nb_lt64
set_option maxRecDepth 100000

def hd8 (k : Byte) (n : BitVec 32) : List Byte := [0x54#8, 0x4d#8, 1#8, k] ++ oword 4 (n.setWidth 64)
theorem hd8_len (k : Byte) (n : BitVec 32) : (hd8 k n).length = 8 := by simp [hd8, oword_len]
theorem pgHd_hd8 (k : Byte) (n : BitVec 32) : pgHd k n = hd8 k n ++ z4 := rfl
def pgB1 (k : Byte) (n : BitVec 32) (x : List Byte) : List Byte := pgHd k n ++ (z4 ++ pgPad x)
theorem pgB1_len (k : Byte) (n : BitVec 32) {x : List Byte} (h : x.length ≤ 4080) : (pgB1 k n x).length = 4096 := by simp [pgB1, pgHd_len, z4, pgPad_len h]
theorem rep_z4 (m : Nat) : List.replicate (m + 4) 0#8 = z4 ++ List.replicate m 0#8 := by
  rw [Nat.add_comm, ← List.replicate_append_replicate]; rfl
theorem pg_splice1 (k : Byte) (n : BitVec 32) {x : List Byte} (h : x.length ≤ 4080) : splice (hd8 k n ++ List.replicate 4088 0#8) 16 x = pgB1 k n x := by
  have e : hd8 k n ++ List.replicate 4088 0#8 = (hd8 k n ++ (z4 ++ z4)) ++ List.replicate 4080 0#8 := by
    rw [show 4088 = (4080 + 4) + 4 from rfl, rep_z4, rep_z4]; simp only [List.append_assoc]
  have l16 : (hd8 k n ++ (z4 ++ z4)).length = 16 := by simp [hd8_len, z4]
  unfold splice pgB1 pgPad
  rw [e, List.take_append_of_le_length (by omega), List.take_of_length_le (by omega), List.drop_append, List.drop_of_length_le (by omega), List.nil_append, List.drop_replicate, pgHd_hd8, l16, show 4080 - (16 + x.length - 16) = 4080 - x.length from by omega]
  simp only [List.append_assoc]
theorem pg_splice2 (k : Byte) (n : BitVec 32) (x : List Byte) {s : List Byte} (h : s.length = 4) : splice (pgB1 k n x) 12 s = pgHd k n ++ (s ++ pgPad x) := by
  have l12 := pgHd_len k n
  unfold splice pgB1
  rw [h, List.take_append_of_le_length (by omega), List.take_of_length_le (by omega), List.drop_append, List.drop_of_length_le (by omega), l12]
  rfl
theorem pgB1_take (k : Byte) (n : BitVec 32) (x : List Byte) : (pgB1 k n x).take 12 = pgHd k n := by
  unfold pgB1; rw [List.take_append_of_le_length (by rw [pgHd_len]; omega), List.take_of_length_le (by rw [pgHd_len]; omega)]
theorem pgB1_drop (k : Byte) (n : BitVec 32) (x : List Byte) : (pgB1 k n x).drop 16 = pgPad x := by
  unfold pgB1
  rw [List.drop_append, List.drop_of_length_le (by rw [pgHd_len]; omega), pgHd_len]
  rfl
/-- Bytes of the call's own, and an error, that are returned. -/
def PgBy (r : List Byte × Int) (w : World) (e : Ending) (w' : World) : Prop :=
  ∃ A c, e = .returned (.tuple #[.slice A r.1.length c, .int .i64 r.2]) ∧ Own w' w.heap.size (.slice A r.1.length c) r.1 ∧ FB w w'
set_option maxHeartbeats 4000000 in
theorem pg_Bytes (K : Int) (n : BitVec 32) (x : List Byte) (A : Option Addr) (c : Nat) (w : World) (hx : x.length ≤ 1000000000) (hr : Rd w A x) :
    Calls Try.prog 38 #[.agg #[.int .i64 K, .int .u32 (nb n), .slice A x.length c]] w fun e w' => PgBy (pgB K n x) w e w' := by
  have HF := Lib.hid ((FB.refl w).alloc (.cells #[.int .i64 K, .int .u32 (nb n), .slice A x.length c] 71))
  have HR := Lib.hid hr
  obtain ⟨R, hR⟩ : ∃ R, R = pgB K n x := ⟨_, rfl⟩
  rw [← hR]
  unfold pgB at hR
  clear hr
  by_cases h1 : K < 1
  · obtain rfl : R = ([], 2) := by rw [hR, if_neg (by rw [pgOk_iff]; omega)]
    clear hR
    go_enter Try.func38, Try.ntmps38
    go_wp2
    go_ret2
    exact ⟨none, 0, rfl, Own.nil _ _, HF.out⟩
  · by_cases h2 : 7 < K
    · obtain rfl : R = ([], 2) := by rw [hR, if_neg (by rw [pgOk_iff]; omega)]
      clear hR
      go_enter Try.func38, Try.ntmps38
      go_wp2
      go_ret2
      exact ⟨none, 0, rfl, Own.nil _ _, HF.out⟩
    · by_cases h3 : 4080 < x.length
      · obtain rfl : R = ([], 2) := by rw [hR, if_neg (by rw [pgOk_iff]; omega)]
        have h3z : 4080 < (x.length : Int) := by omega
        clear hR h3
        go_enter Try.func38, Try.ntmps38
        go_wp2
        go_ret2
        exact ⟨none, 0, rfl, Own.nil _ _, HF.out⟩
      · rw [if_pos (pgOk_iff.2 (by omega))] at hR
        have HRR := Lib.hid hR
        have h3z : ¬ 4080 < (x.length : Int) := by omega
        have HX := Lib.hid (show x.length ≤ 4080 from by omega)
        have hwK : IntKind.u8.wrap K = K := by rw [IntKind.wrap_u8]; omega
        have hwn : IntKind.u64.wrap (nb n) = nb n := by rw [wrap_u64]; have := nb_lt32 n; have := nb_nonneg n; omega
        obtain ⟨k, hk⟩ : ∃ k, k = BitVec.ofInt 8 K := ⟨_, rfl⟩
        have HKN := Lib.hid (show nb k = K from by rw [hk]; exact nb_kind (by omega))
        rw [← hk] at HRR
        have HLIT := Lib.hid (show ∀ W : World, Rd (W.alloc (.cells #[.int .u8 84, .int .u8 77, .int .u8 1, .int .u8 K] 5)) (some ⟨W.heap.size, 0, none⟩) [0x54#8, 0x4d#8, 1#8, k] from fun W => by
          unfold Rd
          rw [show vbs [0x54#8, 0x4d#8, 1#8, k] = [.int .u8 84, .int .u8 77, .int .u8 1, .int .u8 K] from by rw [← HKN.out]; rfl]
          exact RdV.lit W [.int .u8 84, .int .u8 77, .int .u8 1, .int .u8 K] 5 rfl)
        have HWD := Lib.hid (fun W => by
          have := oct_Word [0x54#8, 0x4d#8, 1#8, k] (some ⟨W.heap.size, 0, none⟩) 4 4 (n.setWidth 64) 4 (W.alloc (.cells #[.int .u8 84, .int .u8 77, .int .u8 1, .int .u8 K] 5)) rfl (by simp) (by simp [maxLen]) (by simp) (HLIT.out W)
          rw [nb_setWidth n (by omega)] at this
          exact this.mono (fun e w' h => by
            obtain ⟨v, h1, h2, h3⟩ := h
            exact (show ∃ v, e = .returned v ∧ Own w' W.heap.size v (hd8 k n) ∧ FB W w' from ⟨v, h1, h2.lower (by simp), ((FB.refl W).alloc _).call h3⟩)))
        have HBX := Lib.hid (heap_alloc_new w (.cells #[.int .i64 K, .int .u32 (nb n), .slice A x.length c] 71))
        clear hR hk h3
        go_enter Try.func38, Try.ntmps38
        go_wp2_with fail
        have hcw := HWD.out (w.alloc (.cells #[.int .i64 K, .int .u32 (nb n), .slice A x.length c] 71))
        simp only [World.size_alloc] at hcw
        refine hcw.mono ?_
        rintro e w1 ⟨v, rfl, ho, hb⟩
        obtain ⟨A1, c1, rfl, -, -, -, -⟩ := Own.form ho
        rw [hd8_len] at ho ⊢
        have HF1 := Lib.hid (HF.out.trans hb)
        have HBX1 := Lib.hid ((hb.block _ (Array.getElem?_eq_some_iff.1 HBX.out).1).trans HBX.out)
        have HG1 := Lib.hid (show w.heap.size + 1 ≤ w1.heap.size from by have := hb.le; simpa using this)
        obtain ⟨v2, w2, hrun, ho2, hgr⟩ := run_append_zeros w1 (w.heap.size + 1) _ _ ho (by rw [hd8_len]; omega) 4088 (by omega) (by rw [hd8_len]; omega) HG1.out
        have HRUN := Lib.hid hrun
        have hlo := fun k hk => (OwnV.base ho k hk).1
        have HF2 := Lib.hid (HF1.out.grown hgr (fun k hk => by have := hlo k hk; omega))
        have HBX2 := Lib.hid ((hgr.block _ (Array.getElem?_eq_some_iff.1 HBX1.out).1 (fun e => by have := hlo _ e.symm; omega)).trans HBX1.out)
        obtain ⟨A2, c2, rfl, hc2, hm2, -, -⟩ := Own.form ho2
        have hl2 : (hd8 k n ++ List.replicate 4088 0#8).length = 4096 := by simp [hd8_len]
        rw [hl2] at ho2 hc2 HRUN
        obtain ⟨g, rfl, hg1, -⟩ := OwnV.head0 ho2 (by rw [vbs_length, hl2]; omega)
        have HC2 := Lib.hid (And.intro hc2 hm2)
        have HO2 := Lib.hid ho2
        have HGB := Lib.hid hg1
        clear hcw ho hb hrun hgr hlo ho2 hl2 hc2 hm2 hg1 HWD HLIT HBX HF HBX1 HG1 hwK hwn
        go_upto_region 6 with (at_builtin; refine Lib.wpList_append_run _ rfl _ _ _ _ rfl _ _ rfl rfl _ _ (HRUN.out _) ?_)
        clear HRUN
        have HCF := Lib.hid (show (16 : Int) ≤ (c2 : Int) ∧ (12 : Int) ≤ (c2 : Int) ∧ (c2 : Int) ≤ 9223372036854775807 ∧ 16 < c2 from by have := HC2.out; simp only [maxLen] at this; omega)
        have hf1 := HCF.out.1
        have hf2 := HCF.out.2.1
        have hf3 := HCF.out.2.2.1
        have hf5 : ¬ c2 = 16 := by have := HCF.out; omega
        have hf6 : ¬ c2 = 12 := by have := HCF.out; omega
        obtain ⟨W0, hW0⟩ : ∃ W0 : World, W0 = w2 := ⟨_, rfl⟩
        rw [← hW0]
        refine region_sch (E := TS ([g])) ((0, true) :: (1, true) :: (2, true) :: (3, true) :: (4, false) :: []) (by kernel_rfl) (TS.refl _) (fun _ _ _ h k => TS.then h k) (fun _ _ d _ _ h => by cases d <;> exact h) (by kernel_rfl) ?_
        intro ops hops0
        have hops := Lib.hid hops0
        clear hops0
        have HF : TS ([g]) W0 W0.drew := TS.of (FB.refl _).drew
        have HD : FB W0 W0.drew := (FB.refl _).drew
        generalize W0.drew = wF0 at *
        rw [hW0] at HD
        have HFq := Lib.hid (HF2.out.trans HD)
        have HBq := Lib.hid ((HD.block _ (Array.getElem?_eq_some_iff.1 HBX2.out).1).trans HBX2.out)
        have HOq := Lib.hid (HD.own HO2.out)
        have HK := Lib.hid (prow3 HBq.out).2.2
        have HNG := Lib.hid (show w.heap.size ∉ [g] from by have := HGB.out; simp; omega)
        clear hW0 HD HF HBX2 HO2 HF2
        repeat (refine sch_take (o := ?_) (v := ?_) (a' := ?_) (at_of hops.out ?_) ?_ (fun W hW => ?_) ?_ ?_; rotate_left 3; (focus (simp only [List.getElem?_toArray, List.getElem?_cons_zero, List.getElem?_cons_succ]; rfl)); (focus (rw [hops.out]; rfl)); (focus (have u1 := TS.cell hW HK.out HNG.out; go_simp; with_reducible rfl)); (focus (simp only [Act.put, List.setIfInBounds_toArray, List.set_cons_zero, List.set_cons_succ]; rfl)))
        obtain ⟨w6, hrunc, hoc, htb⟩ := cp_run HOq.out 16 4080 (c2 - 16) A c x (HFq.out.rd HR.out) HX.out (by have := HX.out; simp [hd8_len]; omega)
        rw [pg_splice1 k n HX.out] at hoc
        (refine cp_sch (o := ?_) (at_of hops.out ?_) ?_ (.tmp 34) (.tmp 36) 22 22 ?_ _ _ ?_ ?_ hrunc (TS.tb htb (by simp)) ?_; rotate_left 1; (focus (simp only [List.getElem?_toArray, List.getElem?_cons_zero, List.getElem?_cons_succ]; rfl)); (focus (rw [hops.out]; rfl)); (focus rfl); (focus rfl); (focus rfl))
        simp only [Act.put, List.setIfInBounds_toArray, List.set_cons_zero, List.set_cons_succ]
        refine sch_done ?_
        have HT6 := Lib.hid (show TS [g] wF0 w6 from TS.tb htb (by simp))
        have HF6 := Lib.hid (HFq.out.ts HT6.out (fun y hy => by have := HGB.out; simp at hy; omega))
        have HO6 := Lib.hid hoc
        clear hops hoc htb hrunc HOq HFq HBq HK HT6
        go_upto_region 7 with fail
        obtain ⟨W0, hW0⟩ : ∃ W0 : World, W0 = w6 := ⟨_, rfl⟩
        rw [← hW0]
        refine region_sch (E := TS ([g])) ((0, true) :: (1, true) :: (2, true) :: (3, false) :: (4, true) :: (5, false) :: (6, false) :: []) (by kernel_rfl) (TS.refl _) (fun _ _ _ h k => TS.then h k) (fun _ _ d _ _ h => by cases d <;> exact h) (by kernel_rfl) ?_
        intro ops hops0
        have hops := Lib.hid hops0
        clear hops0
        have HF : TS ([g]) W0 W0.drew := TS.of (FB.refl _).drew
        have HD : FB W0 W0.drew := (FB.refl _).drew
        generalize W0.drew = wF0 at *
        rw [hW0] at HD
        have HFq := Lib.hid (HF6.out.trans HD)
        have HOq := Lib.hid (HD.own HO6.out)
        clear hW0 HD HF HF6 HO6
        repeat (refine sch_take (o := ?_) (v := ?_) (a' := ?_) (at_of hops.out ?_) ?_ (fun W hW => ?_) ?_ ?_; rotate_left 3; (focus (simp only [List.getElem?_toArray, List.getElem?_cons_zero, List.getElem?_cons_succ]; rfl)); (focus (rw [hops.out]; rfl)); (focus (go_simp; with_reducible rfl)); (focus (simp only [Act.put, List.setIfInBounds_toArray, List.set_cons_zero, List.set_cons_succ]; rfl)))
        have HCR := Lib.hid (show Calls Try.prog 62 #[.slice (some ⟨g, 0, none⟩) 4096 c2] wF0 fun e w' => e = .returned (.int .u32 (nb (pgSum k n x))) ∧ FB wF0 w' from by
          have h1 := pg_crcOf (pgB1 k n x) g 0 c2 wF0 (pgB1_len k n HX.out) HC2.out.1 HC2.out.2 (Own.info HOq.out).2.2.1
          rw [pgB1_take, pgB1_drop] at h1
          exact h1)
        (refine sch_call (o := ?_) (f := ?_) (args := ?_) (at_of hops.out ?_) ?_ ?_ ?_; rotate_left 3; (focus (simp only [List.getElem?_toArray, List.getElem?_cons_zero, List.getElem?_cons_succ]; rfl)); (focus (rw [hops.out]; rfl)); (focus (go_simp; constructor <;> with_reducible rfl)); (first | ((with_reducible refine (HCR.out).mono ?_); rintro e w7 ⟨rfl, hb⟩; refine ⟨_, rfl, (TS.of hb), ?_⟩; intro a' ha'; simp only [Act.put, List.setIfInBounds_toArray, List.set_cons_zero, List.set_cons_succ] at ha'; subst ha')))
        have HFr := Lib.hid (HFq.out.trans hb)
        have HOr := Lib.hid (FB.own hb HOq.out)
        clear hb HCR HOq HFq
        generalize hsm : pgSum k n x = sm at *
        have HSM := Lib.hid hsm
        have hws : IntKind.u64.wrap (nb sm) = nb sm := by rw [wrap_u64]; have := nb_lt32 sm; have := nb_nonneg sm; omega
        clear hsm
        repeat (refine sch_take (o := ?_) (v := ?_) (a' := ?_) (at_of hops.out ?_) ?_ (fun W hW => ?_) ?_ ?_; rotate_left 3; (focus (simp only [List.getElem?_toArray, List.getElem?_cons_zero, List.getElem?_cons_succ]; rfl)); (focus (rw [hops.out]; rfl)); (focus (go_simp; with_reducible rfl)); (focus (simp only [Act.put, List.setIfInBounds_toArray, List.set_cons_zero, List.set_cons_succ]; rfl)))
        have HW2 := Lib.hid (show Calls Try.prog 37 #[.slice none 0 0, .int .u64 (nb sm), .int .i64 4] w7 fun e w' => ∃ v, e = .returned v ∧ Own w' w7.heap.size v (oword 4 (sm.setWidth 64)) ∧ FB w7 w' from by
          have h1 := oct_Word [] none 0 0 (sm.setWidth 64) 4 w7 rfl (by simp) (by simp [maxLen]) (by simp) (Rd.nil _ _)
          rw [nb_setWidth sm (by omega)] at h1
          exact h1)
        (refine sch_call (o := ?_) (f := ?_) (args := ?_) (at_of hops.out ?_) ?_ ?_ ?_; rotate_left 3; (focus (simp only [List.getElem?_toArray, List.getElem?_cons_zero, List.getElem?_cons_succ]; rfl)); (focus (rw [hops.out]; rfl)); (focus (go_simp; constructor <;> with_reducible rfl)); (first | ((with_reducible refine (HW2.out).mono ?_); rintro e w8 ⟨v8, rfl, ho8, hb⟩; refine ⟨_, rfl, (TS.of hb), ?_⟩; intro a' ha'; simp only [Act.put, List.setIfInBounds_toArray, List.set_cons_zero, List.set_cons_succ] at ha'; subst ha')))
        obtain ⟨A8, c8, rfl, -, -, hr8, -⟩ := Own.form ho8
        have HFs := Lib.hid (HFr.out.trans hb)
        have HOs := Lib.hid (FB.own hb HOr.out)
        obtain ⟨w9, hrunc, hoc, htb⟩ := cp_run HOs.out 12 4 (c2 - 12) A8 c8 (oword 4 (sm.setWidth 64)) hr8 (by rw [oword_len]; omega) (by rw [oword_len, pgB1_len k n HX.out]; omega)
        rw [pg_splice2 k n x (oword_len _ _)] at hoc
        rw [oword_len] at hrunc ⊢
        (refine cp_sch (o := ?_) (at_of hops.out ?_) ?_ (.tmp 39) (.tmp 43) 22 22 ?_ _ _ ?_ ?_ hrunc (TS.tb htb (by simp)) ?_; rotate_left 1; (focus (simp only [List.getElem?_toArray, List.getElem?_cons_zero, List.getElem?_cons_succ]; rfl)); (focus (rw [hops.out]; rfl)); (focus rfl); (focus rfl); (focus rfl))
        simp only [Act.put, List.setIfInBounds_toArray, List.set_cons_zero, List.set_cons_succ]
        refine sch_done ?_
        have HE := Lib.hid (HFs.out.ts (show TS [g] w8 w9 from TS.tb htb (by simp)) (fun y hy => by have := HGB.out; simp at hy; omega))
        have HO9 := Lib.hid (show Own w9 w.heap.size (.slice (some ⟨g, 0, none⟩) 4096 c2) (pgBytes k n x) from by
          unfold pgBytes; rw [HSM.out]; exact hoc.lower (by omega))
        clear hops hoc htb hrunc HOs HOr HFr HFs hr8 ho8 hb
        go_wp2
        go_ret2
        rw [HRR.out]
        exact ⟨some ⟨g, 0, none⟩, c2, by rw [pgBytes_len k n HX.out]; rfl, by rw [pgBytes_len k n HX.out]; exact HO9.out, HE.out⟩
end Go.Proofs.Ytihljjfnjclefaa
/- root: the walk through Bytes. -/
set_option linter.unusedVariables false
set_option linter.unusedSimpArgs false
namespace Go.Proofs.Ytihljjfnjclefaa
open Go.ChangeShapes Go.WideShapes Go.ChangeAt Go.RowKit
attribute [local go_sem] nb_nonneg nb_lt8 nb_lt64
set_option maxRecDepth 100000

theorem rtWs_len (r : Rt) : (rtWs r).length = 9 := rfl
theorem ix9 (r : Rt) (k : Nat) (hk : k < 9) : ∀ w, (Instr.index 66 (.agg #[.int .u64 (nb r.E), .int .u64 (nb r.P), .int .u64 (nb r.T), .int .u64 (nb r.S), .int .u64 (nb r.L), .int .u64 (nb r.a), .int .u64 (nb r.b), .int .u64 (nb r.c), .int .u64 (nb r.d)]) (.int .i64 (k : Int))).run Try.prog w = .ok (.int .u64 (nb ((rtWs r)[k]'(by rw [rtWs_len]; exact hk)))) w := by
  intro w
  rcases (show k = 0 ∨ k = 1 ∨ k = 2 ∨ k = 3 ∨ k = 4 ∨ k = 5 ∨ k = 6 ∨ k = 7 ∨ k = 8 by omega) with rfl | rfl | rfl | rfl | rfl | rfl | rfl | rfl | rfl <;> kernel_rfl
theorem owords_take (l : List (BitVec 64)) (k : Nat) (h : k < l.length) : owords (l.take (k + 1)) = owords (l.take k) ++ oword 8 l[k] := by
  rw [List.take_succ_eq_append_getElem h, owords_snoc]
theorem owords_takeLen (r : Rt) (k : Nat) (h : k ≤ 9) : (owords ((rtWs r).take k)).length = 8 * k := by
  rw [owords_len, List.length_take, rtWs_len]; omega
set_option maxHeartbeats 4000000 in
theorem rt_Bytes (r : Rt) (w : World) :
    Calls Try.prog 9 #[rtV r] w fun e w' => PgBy (rtB r) w e w' := by
  obtain ⟨W1, hW1⟩ : ∃ W1 : World, W1 = w.alloc (.cells (rtCs r) 29) := ⟨_, rfl⟩
  have HF := Lib.hid (show FB w W1 from by rw [hW1]; exact (FB.refl w).alloc _)
  have HG := Lib.hid (show W1.heap[w.heap.size]? = some (.cells (rtCs r) 29 (0, 0)) from by rw [hW1]; exact heap_alloc_new w _)
  have HW1 := Lib.hid hW1
  obtain ⟨q0, q1, q2, q3, q4, q5, q6, q7, q8⟩ := prow9 HG.out
  have hck := rt_Check r W1
  unfold rtV rtCs at hck
  have HCK := Lib.hid hck
  unfold rtV
  clear hW1 hck
  go_enter Try.func9, Try.ntmps9
  go_upto_region 1 with fail
  rw [← HW1.out]
  clear HW1
  go_wp2_with fail
  refine HCK.out.mono ?_
  rintro e w1 ⟨rfl, hb⟩
  have HF1 := Lib.hid (HF.out.trans hb)
  have HG1 := Lib.hid ((hb.block _ (Array.getElem?_eq_some_iff.1 HG.out).1).trans HG.out)
  clear q0 q1 q2 q3 q4 q5 q6 q7 q8 hb HCK
  obtain ⟨q0, q1, q2, q3, q4, q5, q6, q7, q8⟩ := prow9 HG1.out
  cases hok : rtOk r with
  | false =>
    have hc : rtChk r = 2 := by unfold rtChk; rw [hok]; rfl
    rw [hc]
    have HB := Lib.hid (rtB_off hok)
    clear hok hc
    go_wp2
    go_ret2
    rw [HB.out]
    exact ⟨none, 0, rfl, Own.nil _ _, HF1.out⟩
  | true =>
    have hc : rtChk r = 0 := by unfold rtChk; rw [hok]; rfl
    rw [hc]
    have HB := Lib.hid (show rtB r = pgB 1 (r.E.setWidth 32) (rtBody r) from by unfold rtB; rw [hok]; rfl)
    have HIX := Lib.hid (ix9 r)
    have HGB := Lib.hid (show w.heap.size < w1.heap.size from (Array.getElem?_eq_some_iff.1 HG1.out).1)
    clear hok hc HF HG
    go_wp2_with fail
    go_loopw [5, 7, 36] (fun v _ i wr => ∃ k : Nat, k ≤ 9 ∧ i = .int .i64 k ∧ Hid (Own wr w1.heap.size v (owords ((rtWs r).take k))) ∧ Hid (FB w1 wr)) (fun _ _ i _ => 9 - (intOf i).toNat)
    case atStart => exact ⟨0, by omega, rfl, Lib.hid (Own.nil _ _), Lib.hid (FB.refl _)⟩
    case round =>
      obtain ⟨k, hk, rfl, HO, HE⟩ := hrel
      obtain ⟨A, c, e', -, -, -, -⟩ := Own.form HO.out
      rw [owords_takeLen r k hk] at e'
      subst e'
      have HI := Lib.hid (Own.info HO.out)
      have HK := Lib.hid hk
      clear q0 q1 q2 q3 q4 q5 q6 q7 q8
      by_cases hlt : k < 9
      · have hkz : (k : Int) < 9 := by omega
        have hix := HIX.out k hlt
        have HOW := Lib.hid (owords_take (rtWs r) k (by rw [rtWs_len]; exact hlt))
        generalize (rtWs r)[k]'(by rw [rtWs_len]; exact hlt) = x at *
        have hcw := oct_Word (owords ((rtWs r).take k)) A (8 * k) c x 8 wr (by rw [owords_takeLen r k hk]) HI.out.1 HI.out.2.1 (by rw [owords_takeLen r k hk]; omega) HI.out.2.2.1
        rw [show owordZ 8 x = oword 8 x from by simp [owordZ], ← HOW.out] at hcw
        have HC := Lib.hid hcw
        have HL := Lib.hid hlt
        clear hcw hlt hk
        go_wp2_with fail
        refine HC.out.mono ?_
        rintro e w2 ⟨v, rfl, ho, hb⟩
        have HO2 := Lib.hid (ho.lower (show w1.heap.size ≤ wr.heap.size from HE.out.le))
        have HE2 := Lib.hid (HE.out.trans hb)
        clear ho hb
        go_wp2_with fail
        go_round
        case rel => exact ⟨k + 1, by have := HL.out; omega, by go_num, HO2, HE2⟩
        case measure => have := HL.out; simp [intOf]; omega
      · obtain rfl : k = 9 := by omega
        have HG2 := Lib.hid ((HE.out.block _ (Array.getElem?_eq_some_iff.1 HG1.out).1).trans HG1.out)
        obtain ⟨q0, q1, q2, q3, q4, q5, q6, q7, q8⟩ := prow9 HG2.out
        have hcw := pg_Bytes 1 (r.E.setWidth 32) (rtBody r) A c wr (by rw [rtBody_len]; omega) (show Rd wr A (rtBody r) from HI.out.2.2.1)
        rw [rtBody_len, ← HB.out] at hcw
        have HC := Lib.hid hcw
        have hwn : IntKind.u32.wrap (nb r.E) = nb (r.E.setWidth 32) := by rw [IntKind.wrap_u32, nb_mod32]
        clear hcw hlt hk
        go_wp2_with fail
        refine HC.out.mono ?_
        rintro e w2 ⟨A2, c2, rfl, ho, hb⟩
        have HO2 := Lib.hid (ho.lower (show w.heap.size ≤ wr.heap.size from by have := HE.out.le; have := HGB.out; omega))
        have HE2 := Lib.hid ((HF1.out.trans HE.out).trans hb)
        clear ho hb
        go_wp2
        go_ret2
        exact ⟨A2, c2, rfl, HO2.out, HE2.out⟩
end Go.Proofs.Ytihljjfnjclefaa
