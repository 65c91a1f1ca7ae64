/- append(b, make([]byte, n)...): noughts behind a row of the call's own. -/
import Derived.Test.YtihljjfnjclefaaDoorMk
import Derived.Laws.AppendOwn
import Derived.Laws.MakeOwn
set_option linter.unusedVariables false
set_option linter.unusedSimpArgs false
namespace Go.Proofs.YtihljjfnjclefaaDoor
open Go.ChangeShapes Go.WideShapes Go.ChangeAt Go.RowKit

theorem zeroCells_list (z : Value) (h : z.cells = #[z]) (n : Nat) : (Builtin.zeroCells z.cells n).toList = List.replicate n z := by
  rw [h]
  have : Builtin.zeroCells #[z] n = madeCells #[z] n := by simp [Builtin.zeroCells, madeCells]
  rw [this, toList_madeCells_one]
theorem run_append_zeros_room {P : Program} (w : World) (t tn ty e : TypeId) (i : TypeInfo) (z : Value) (kn : IntKind) (ht : P.underlying t = some (.slice e)) (htn : P.underlying tn = some (.int kn)) (hi : P.info? e = some i) (hz : i.zero = some z) (hs1 : i.size = 1) (hb1 : i.bytes = 1) (hzc : z.cells = #[z]) (hz1 : z.oneCell' = true)
    (g sLen sCap : Nat) (cur : Array Value) (hg : w.heap[g]? = some (.cells cur e (0, 0))) (n : Nat) (h0 : 0 < n) (hn : n ≤ 1000000000)
    (hroom : sLen + n ≤ sCap) (hfit : sLen + n ≤ cur.size) :
    (Builtin.append_ #[t, tn] ty #[.slice (some ⟨g, 0, none⟩) sLen sCap, .int .i64 (n : Int)]).run P w =
      .ok (.slice (some ⟨g, 0, none⟩) (sLen + n) sCap) (w.setRow g (cur.toList.take sLen ++ List.replicate n z ++ cur.toList.drop (sLen + n)).toArray) := by
  have hw : IntKind.i64.wrap (n : Int) = n := by rw [IntKind.wrap_i64]; omega
  have hneg : ¬ ((n : Int) < 0) := by omega
  have h48 : ¬ (281474976710656 < (n : Int)) := by omega
  have hn0 : ¬ n = 0 := by omega
  have hst := run_storeCells_at P g sLen e (List.replicate n z) 0 cur w hg (by simpa using hfit) (fun u hu => by rw [List.eq_of_mem_replicate hu]; exact hz1)
  simp only [Nat.add_zero, List.length_replicate] at hst
  have hzl := zeroCells_list z hzc n
  simp [Builtin.append_, run_underlying ht, run_underlying htn, sizeOf, typeInfo, zeroValue, hi, hz, hs1, hb1, asInt, asIntOf, hw, hneg, h48, hn0, hroom, Addr.add_lit, hzl, hst]
theorem run_append_zeros_grow {P : Program} (w : World) (t tn ty e : TypeId) (i : TypeInfo) (z : Value) (kn : IntKind) (ht : P.underlying t = some (.slice e)) (htn : P.underlying tn = some (.int kn)) (hi : P.info? e = some i) (hz : i.zero = some z) (hs1 : i.size = 1) (hb1 : i.bytes = 1) (hzc : z.cells = #[z])
    (b : Addr) (sLen sCap : Nat) (olds : List Value) (hlo : olds.length = sLen) (holds : ∀ j v, olds[j]? = some v → w.cell? (b.add j) = some v) (n : Nat) (h0 : 0 < n) (hn : sLen + n ≤ 1000000000)
    (hg : sCap < sLen + n) (hfit : Builtin.nextslicecap (sLen + n) sCap ≤ 281474976710656) :
    (Builtin.append_ #[t, tn] ty #[.slice (some b) sLen sCap, .int .i64 (n : Int)]).run P w =
      .ok (.slice (some ⟨w.heap.size, 0, none⟩) (sLen + n) (grownCap w (sLen + n) sCap e))
        (w.drew.alloc (.cells (olds.toArray ++ (List.replicate n z).toArray ++ Builtin.zeroCells z.cells (grownCap w (sLen + n) sCap e - (sLen + n))) e)) := by
  have hw : IntKind.i64.wrap (n : Int) = n := by rw [IntKind.wrap_i64]; omega
  have hneg : ¬ ((n : Int) < 0) := by omega
  have h48 : ¬ (281474976710656 < (n : Int)) := by omega
  have hn0 : ¬ n = 0 := by omega
  have hnr : ¬ (sLen + n ≤ sCap) := by omega
  have h63' : ¬ (9223372036854775807 < ((sLen : Int) + (n : Int))) := by omega
  have h48' : ¬ (281474976710656 < Builtin.nextslicecap (sLen + n) sCap) := by omega
  have hfo := run_firstCells_some (P := P) w.drew 1 sLen b sLen sCap olds (by simpa using hlo) (by simpa using holds)
  have hzl : Builtin.zeroCells z.cells n = (List.replicate n z).toArray := Array.ext' (by rw [zeroCells_list z hzc n])
  simp [Builtin.append_, run_underlying ht, run_underlying htn, sizeOf, typeInfo, zeroValue, hi, hz, hs1, hb1, asInt, asIntOf, hw, hneg, h48, hn0, hnr, h63', h48', Question.forced, hfo, newRow, grownCap, hzl]
/-- Noughts behind a row of the call's own. -/
theorem run_append_zeros (w : World) (base : Nat) (v : Value) (xs : List Byte) (hown : Own w base v xs) (hx : 0 < xs.length) (n : Nat) (h0 : 0 < n) (hlen : xs.length + n ≤ 1000000000) (hbase : base ≤ w.heap.size) :
    ∃ v' w', (∀ ty, (Builtin.append_ #[23, 3] ty #[v, .int .i64 (n : Int)]).run Tryd.prog w = .ok v' w') ∧ Own w' base v' (xs ++ List.replicate n 0#8) ∧ w.grownBy w' v.ownBlock := by
  obtain ⟨i, hi, hz, hsz, hby⟩ := info_parts info_u8
  have hl2 : (vbs xs ++ List.replicate n (Value.int .u8 0)).length = xs.length + n := by simp [vbs_length]
  have hv : vbs (xs ++ List.replicate n 0#8) = vbs xs ++ List.replicate n (Value.int .u8 0) := by rw [vbs_append, vbs_zeros]
  unfold Own OwnV at hown ⊢
  rw [hv, hl2]
  rw [vbs_length] at hown
  have hxl : (vbs xs).length = xs.length := vbs_length xs
  rcases hown.2 with ⟨rfl, hz0⟩ | ⟨g, cap, cur, rfl, hbg, hg, hnc, hcm, hcs, htake⟩
  · omega
  · have hcs' : cur.size = cap := by simpa using hcs
    have ht' : cur.toList.take xs.length = vbs xs := by simpa using htake
    by_cases hroom : xs.length + n ≤ cap
    · have hr := fun ty => run_append_zeros_room (P := Tryd.prog) w 23 3 ty 5 i _ .i64 Tryd.underlying23 Tryd.underlying3 hi hz hsz hby rfl rfl g xs.length cap cur hg n h0 (by omega) hroom (by omega)
      refine ⟨_, _, hr, ⟨by rw [hl2]; omega, .inr ⟨g, cap, _, rfl, hbg, setRow_heap w g cur _ _ _ hg, hroom, hcm, ?_, ?_⟩⟩, ⟨rfl, rfl, rfl, by simp, fun k _ hk => setRow_other w g k _ (fun e => hk (by simp [Value.ownBlock, e]))⟩⟩
      · simp only [List.size_toArray, List.length_append, List.length_take, List.length_drop, Array.length_toList, List.length_replicate]
        omega
      · rw [ht']
        have : (xs.length + n) * 1 = (vbs xs ++ List.replicate n (Value.int .u8 0)).length := by rw [hl2]; omega
        rw [this]
        exact List.take_left
    · have holds : ∀ j u, (vbs xs)[j]? = some u → w.cell? ((⟨g, 0, none⟩ : Addr).add j) = some u := hown.cells (g := g) rfl
      have hr := fun ty => run_append_zeros_grow (P := Tryd.prog) w 23 3 ty 5 i _ .i64 Tryd.underlying23 Tryd.underlying3 hi hz hsz hby rfl ⟨g, 0, none⟩ xs.length cap (vbs xs) hxl holds n h0 hlen (by omega) (by have := growslice_fits (need := xs.length + n) (old := cap) (bytes := 1) (by omega) (by omega); omega)
      have hge := grownCap_ge w (xs.length + n) cap 5
      have hcm2 : grownCap w (xs.length + n) cap 5 ≤ maxLen := grownCap_le_maxLen w (xs.length + n) cap 5 (by simp [maxLen]; omega)
      refine ⟨_, _, hr, ⟨by rw [hl2]; omega, .inr ⟨w.heap.size, _, _, rfl, hbase, heap_alloc_new w.drew _, hge, hcm2, ?_, ?_⟩⟩, ⟨rfl, rfl, rfl, by simp, fun k hk _ => ((FB.refl w.drew).alloc _).block k hk⟩⟩
      · simp only [Array.size_append, List.size_toArray, size_zeroCells, hxl, List.length_replicate]
        have : (Value.int IntKind.u8 0).cells.size = 1 := rfl
        rw [this]; omega
      · simp only [Array.toList_append, List.append_assoc]
        rw [← List.append_assoc]
        have : (xs.length + n) * 1 = (vbs xs ++ List.replicate n (Value.int .u8 0)).length := by rw [hl2]; omega
        rw [this]
        exact List.take_left
end Go.Proofs.YtihljjfnjclefaaDoor
