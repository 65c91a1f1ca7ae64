/- The walk of CrcTables. -/
import Derived.Test.YtoacmcfildmijaaCrcL
import Derived.Test.YtoacmcfildmijaaCrcT
import Derived.Test.YtoacmcfildmijaaSched
set_option linter.unusedVariables false
set_option linter.unusedSimpArgs false
namespace Go.Proofs.Ytoacmcfildmijaa
open Go.ChangeShapes Go.WideShapes Go.ChangeAt Go.RowKit
attribute [local go_sem] nb_beq nb_bne bits_xor32 bits_xor8 BitVec.setWidth_eq nb_nonneg nb_lt8

theorem crcStep_byteB (s : BitVec 32) (a b : Byte) : (crcStep crcT s a == crcStep crcT s b) = (a == b) := by
  rw [Bool.eq_iff_iff]; simp [crcStep_byte]
theorem crcStep_stateB (x y : BitVec 32) (a : Byte) : (crcStep crcT x a == crcStep crcT y a) = (x == y) := by
  rw [Bool.eq_iff_iff]; simp [crcStep_state]
theorem crc_StepB (T : Array Value) (t : Byte → BitVec 32) (s : BitVec 32) (b : Byte) (w : World) (hT : IsTab T t) :
    Calls Try.prog 15 #[.agg T, .int .u32 (nb s), .int .u8 (nb b)] w fun e w' => e = .returned (.int .u32 (nb (crcStep t s b))) ∧ Below w.heap.size w w' :=
  (crc_Step T t s b w hT).mono fun e w' ⟨h1, h2⟩ => ⟨h1, h2 ▸ (FB.refl w).alloc _⟩
theorem crc_OnB (T : Array Value) (t : Byte → BitVec 32) (s : BitVec 32) (xs : List Byte) (A : Option Addr) (n c : Nat) (w : World) (hn : n = xs.length) (hc : xs.length ≤ c) (hm : c ≤ maxLen) (hr : Rd w A xs) (hT : IsTab T t) :
    Calls Try.prog 12 #[.agg T, .int .u32 (nb s), .slice A n c] w fun e w' => e = .returned (.int .u32 (nb (crcOn t s xs))) ∧ Below w.heap.size w w' := by
  subst hn
  exact (crc_On T t s xs A c w hc hm hr hT).mono fun e w' ⟨h1, h2⟩ => ⟨h1, h2 ▸ (FB.refl w).alloc _⟩
theorem crcOn_two (x : BitVec 32) (a b : Byte) : crcOn crcT (crcOn crcT x [a]) [b] = crcOn crcT x [a, b] := crcOn_append crcT x [a] [b]

set_option maxRecDepth 100000 in
set_option maxHeartbeats 1000000 in
theorem crcTables_walk (a b : Byte) (x y : BitVec 32) (w : World) : Calls Try.prog 7 #[.int .u8 (nb a), .int .u8 (nb b), .int .u32 (nb x), .int .u32 (nb y)] w fun e w' => e = .returned (.bool true) ∧ Below w.heap.size w w' := by
  have hz := (zero_of_info zero_tab).1
  go_enter Try.func7, Try.ntmps7
  go_wp2_with fail
  refine (crc_lives _).mono ?_
  rintro e w1 ⟨rfl, hb⟩
  have hB := (FB.refl w).call hb
  clear hb
  go_wp2_with fail
  refine (crc_Table _).mono ?_
  rintro e w2 ⟨T, rfl, hT, hb⟩
  replace hB := hB.call hb
  have HT := Lib.hid hT
  clear hb hT
  have hs := run_storeAt_new (P := Try.prog) w2 31 zeroTab T (tab_size HT.out) (by rw [zeroTab_size, HT.out.1]) (tab_all HT.out)
  have h1 := HT.out.tab.2 a
  have h2 := HT.out.tab.2 b
  have h3 := HT.out.tab.2 (a ^^^ b)
  have hx : (crcT (a ^^^ b) == crcT a ^^^ crcT b) = true := by rw [crcT_xor]; simp
  go_wp2_with (refine wpList_store_by rfl _ _ _ rfl _ hs ?_)
  have H0 : ((w2.alloc (.cells T 31)).alloc (.cells #[.int .u8 (nb a), .int .u8 (nb b)] 5)).heap[w2.heap.size]? = some (.cells T 31 (0, 0)) := (Below.heap_alloc _ _ _ (by simp)).trans (heap_alloc_new _ _)
  have HR : Rd ((w2.alloc (.cells T 31)).alloc (.cells #[.int .u8 (nb a), .int .u8 (nb b)] 5)) (some ⟨w2.heap.size + 1, 0, none⟩) [a, b] := RdV.lit _ (vbs [a, b]) _
  have H0 := Lib.hid H0
  have HR := Lib.hid HR
  replace hB := (hB.alloc (.cells T 31)).alloc (.cells #[.int .u8 (nb a), .int .u8 (nb b)] 5)
  have HB := Lib.hid hB
  clear hB
  generalize hW : ((w2.alloc (.cells T 31)).alloc (.cells #[.int .u8 (nb a), .int .u8 (nb b)] 5)) = W0 at *
  clear hs h1 h2 h3 hW
  have hg : w2.heap.size < W0.heap.size := (Array.getElem?_eq_some_iff.1 H0.out).1
  have b1 := nb_nonneg (a ^^^ b)
  have b2 := nb_nonneg a
  have b3 := nb_nonneg b
  have b4 := nb_lt8 (a ^^^ b)
  have b5 := nb_lt8 a
  have b6 := nb_lt8 b
  have e1 := crcStep_byteB x a b
  have e2 := crcStep_stateB x y a
  have e3 := crcOn_two x a b
  have e4 := crcOn_nil crcT x
  simp only [List.append]
  refine region_sch (E := FB) ((0, true) :: (1, true) :: (2, true) :: (3, true) :: (4, true) :: (5, true) :: (6, true) :: (7, true) :: (8, true) :: (9, true) :: (10, true) :: (11, true) :: (12, true) :: (13, true) :: (14, true) :: (15, true) :: (16, true) :: (18, true) :: (19, true) :: (20, true) :: (23, true) :: (24, true) :: (25, true) :: (17, false) :: (21, false) :: (22, true) :: (26, true) :: (27, true) :: (28, true) :: (29, true) :: (30, true) :: (31, true) :: (33, true) :: (34, true) :: (35, true) :: (38, true) :: (39, true) :: (40, true) :: (32, false) :: (36, false) :: (37, true) :: (41, true) :: (42, true) :: (43, true) :: (44, true) :: (45, true) :: (46, true) :: (47, true) :: (48, true) :: (50, true) :: (51, true) :: (53, true) :: (54, true) :: (55, true) :: (49, false) :: (52, false) :: (56, false) :: (57, true) :: (58, true) :: (59, true) :: (60, true) :: (61, true) :: (63, true) :: (62, false) :: (64, true) :: (65, true) :: (66, true) :: []) (by kernel_rfl) FB.refl fb_trans (fun _ _ d _ _ h => by cases d <;> exact h) (by kernel_rfl) ?_
  intro ops hops0
  have hops := Lib.hid hops0
  clear hops0
  have HF : FB W0 W0.drew := (FB.refl _).drew
  generalize W0.drew = w3 at *
  clear hg
  have hgT : ∀ W, FB W0 W → W.heap[w2.heap.size]? = some (.cells T 31 (0, 0)) := fun W hW => (hW.block _ (Array.getElem?_eq_some_iff.1 H0.out).1).trans H0.out
  have hcell : ∀ W, FB W0 W → ∀ z : Byte, W.cell? ⟨w2.heap.size, (nb z).toNat, none⟩ = some (.int .u32 (nb (crcT z))) := fun W hW z => by rw [cell_of_row _ _ _ T _ _ (hgT W hW)]; exact HT.out.tab.2 z
  have HGT := Lib.hid hgT
  have HCELL := Lib.hid hcell
  clear hgT hcell
  have HR1 := Lib.hid (Rd.take HR.out 1)
  have HR2 := Lib.hid (Rd.drop HR.out 1)
  have hi := tab_size HT.out
  have HI := Lib.hid hi
  clear hi
  repeat (first
    | (refine sch_loadA (o := ?_) (a' := ?_) (at_of hops.out ?_) ?_ 31 (.tmp 9) ?_ w2.heap.size ?_ _ T (0, 0) _ (fun W hW => HGT.out W (HF.trans hW)) Try.underlying31 rfl HI.out ?_ ?_; rotate_left 2; (focus (simp only [List.getElem?_toArray, List.getElem?_cons_zero, List.getElem?_cons_succ]; rfl)); (focus (rw [hops.out]; rfl)); (focus rfl); (focus rfl); (focus (simp only [Act.put, List.setIfInBounds_toArray, List.set_cons_zero, List.set_cons_succ]; rfl)))
    | (refine sch_take (o := ?_) (v := ?_) (a' := ?_) (at_of hops.out ?_) ?_ (fun W hW => ?_) ?_ ?_; rotate_left 3; (focus (simp only [List.getElem?_toArray, List.getElem?_cons_zero, List.getElem?_cons_succ]; rfl)); (focus (rw [hops.out]; rfl)); (focus (have q1 := HCELL.out W (HF.trans hW) a; have q2 := HCELL.out W (HF.trans hW) b; have q3 := HCELL.out W (HF.trans hW) (a ^^^ b); go_simp; with_reducible rfl)); (focus (simp only [Act.put, List.setIfInBounds_toArray, List.set_cons_zero, List.set_cons_succ]; rfl)))
    | (refine sch_call (o := ?_) (f := ?_) (args := ?_) (at_of hops.out ?_) ?_ ?_ ?_; rotate_left 3; (focus (simp only [List.getElem?_toArray, List.getElem?_cons_zero, List.getElem?_cons_succ]; rfl)); (focus (rw [hops.out]; rfl)); (focus (go_simp; constructor <;> with_reducible rfl)); (first | ((with_reducible refine (crc_StepB T crcT _ _ _ HT.out.tab).mono ?_)) | ((with_reducible refine (crc_OnB T crcT _ [a] _ 1 2 _ rfl (by simp) (by simp [maxLen]) (HF.rd HR1.out) HT.out.tab).mono ?_)) | ((with_reducible refine (crc_OnB T crcT _ [b] _ 1 1 _ rfl (by simp) (by simp [maxLen]) (HF.rd HR2.out) HT.out.tab).mono ?_)) | ((with_reducible refine (crc_OnB T crcT _ [a, b] _ 2 2 _ rfl (by simp) (by simp [maxLen]) (HF.rd HR.out) HT.out.tab).mono ?_)) | ((with_reducible refine (crc_OnB T crcT _ [] _ 0 0 _ rfl (by simp) (by simp [maxLen]) (Rd.nil _ _) HT.out.tab).mono ?_))); rintro e w' ⟨rfl, hb⟩; refine ⟨_, rfl, hb, ?_⟩; intro a' ha'; simp only [Act.put, List.setIfInBounds_toArray, List.set_cons_zero, List.set_cons_succ] at ha'; subst ha'; replace HF := HF.call hb; clear hb))
  refine sch_done ?_
  go_wp2
  go_ret
  exact ⟨rfl, HB.out.trans HF⟩
end Go.Proofs.Ytoacmcfildmijaa
