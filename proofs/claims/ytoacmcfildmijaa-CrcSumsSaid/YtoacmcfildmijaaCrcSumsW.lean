/- The walk of CrcSums. -/
import Derived.Test.YtoacmcfildmijaaCrcL
import Derived.Test.YtoacmcfildmijaaCrcT
import Derived.Test.YtoacmcfildmijaaSched
import Derived.Test.YtoacmcfildmijaaRow
import Derived.ChangeKeysEq
set_option linter.unusedVariables false
set_option linter.unusedSimpArgs false
namespace Go.Proofs.Ytoacmcfildmijaa
open Go.ChangeShapes Go.WideShapes Go.ChangeAt Go.RowKit
attribute [local go_sem] nb_beq nb_bne BitVec.setWidth_eq nb_nonneg nb_lt8

theorem eqItems_same {P : Program} {e : TypeId} {k : IntKind} (he : P.underlying e = some (.int k)) (hp : P.plainKey e = true) (T : Array Value) (d c : Nat) (w : World) :
    ∀ is : List Nat, (∀ i ∈ is, ∃ z, T[i * c]? = some (.int k z)) → (Op.eqItems (d + 1) e c T T is).run P w = .ok true w := by
  intro is
  induction is with
  | nil => intro _; simp [Op.eqItems]
  | cons i is ih =>
    intro h
    obtain ⟨z, hz⟩ := h i (by simp)
    have hpart := run_part_plain (P := P) (w := w) hp hz
    simp only [Op.eqItems, Sem.run_bind, hpart, Result.andThen_ok, run_equalIn_int w d e k k z z he, beq_self_eq_true, Bool.not_true, Bool.false_eq_true, if_false]
    exact ih fun j hj => h j (by simp [hj])
theorem eql_tabIn (T : Array Value) (h : TabTo T 256) (w : World) : (Op.equalIn 10000 31 (.agg T) (.agg T)).run Try.prog w = .ok true w := by
  have hc : Try.prog.cellsOf 23 = 1 := by kernel_rfl
  obtain ⟨i, hi, _⟩ := info_parts (show (Try.prog.info? 23).map (fun i => (i.zero, i.size, i.bytes)) = some (some (.int .u32 0), 1, 4) from by kernel_rfl)
  rw [run_equalIn_array (P := Try.prog) w 9999 T T Try.underlying31 hi,
    eqItems_same (P := Try.prog) Try.underlying23 (by kernel_rfl) T 9998 _ w (List.range 256) (fun i hi => by
      rw [hc, Nat.mul_one]
      exact ⟨_, h.2.2 i (by simpa using hi)⟩)]
theorem crc_StepB (T : Array Value) (t : Byte → BitVec 32) (s : BitVec 32) (b : Byte) (w : World) (hT : IsTab T t) :
    Calls Try.prog 15 #[.agg T, .int .u32 (nb s), .int .u8 (nb b)] w fun e w' => e = .returned (.int .u32 (nb (crcStep t s b))) ∧ Below w.heap.size w w' :=
  (crc_Step T t s b w hT).mono fun e w' ⟨h1, h2⟩ => ⟨h1, h2 ▸ (FB.refl w).alloc _⟩
theorem ref_StepB (T : Array Value) (t : Byte → BitVec 32) (s : BitVec 32) (b : Byte) (w : World) (hT : IsTab T t) :
    Calls Try.prog 18 #[.agg T, .int .u32 (nb s), .int .u8 (nb b)] w fun e w' => e = .returned (.int .u32 (nb (crcStep t s b))) ∧ Below w.heap.size w w' :=
  (ref_Step T t s b w hT).mono fun e w' ⟨h1, h2⟩ => ⟨h1, h2 ▸ (FB.refl w).alloc _⟩
theorem crc_OnB (T : Array Value) (t : Byte → BitVec 32) (s : BitVec 32) (xs : List Byte) (A : Option Addr) (c : Nat) (w : World) (hc : xs.length ≤ c) (hm : c ≤ maxLen) (hr : Rd w A xs) (hT : IsTab T t) :
    Calls Try.prog 12 #[.agg T, .int .u32 (nb s), .slice A xs.length c] w fun e w' => e = .returned (.int .u32 (nb (crcOn t s xs))) ∧ Below w.heap.size w w' :=
  (crc_On T t s xs A c w hc hm hr hT).mono fun e w' ⟨h1, h2⟩ => ⟨h1, h2 ▸ (FB.refl w).alloc _⟩
theorem ref_OnB (T : Array Value) (t : Byte → BitVec 32) (s : BitVec 32) (xs : List Byte) (A : Option Addr) (c : Nat) (w : World) (hc : xs.length ≤ c) (hm : c ≤ maxLen) (hr : Rd w A xs) (hT : IsTab T t) :
    Calls Try.prog 19 #[.agg T, .int .u32 (nb s), .slice A xs.length c] w fun e w' => e = .returned (.int .u32 (nb (crcOn t s xs))) ∧ Below w.heap.size w w' :=
  (ref_On T t s xs A c w hc hm hr hT).mono fun e w' ⟨h1, h2⟩ => ⟨h1, h2 ▸ (FB.refl w).alloc _⟩
theorem tab_ext {T T' : Array Value} (h : TabTo T 256) (h' : TabTo T' 256) : T = T' := by
  apply Array.ext_getElem?
  intro i
  by_cases hi : i < 256
  · rw [h.2.2 i hi, h'.2.2 i hi]
  · rw [Array.getElem?_eq_none (by rw [h.1]; omega), Array.getElem?_eq_none (by rw [h'.1]; omega)]

set_option maxRecDepth 100000 in
set_option maxHeartbeats 1000000 in
theorem crcSums_much (A0 : Option Addr) (c0 : Nat) (xs : List Byte) (s : BitVec 32) (x : Byte) (T : Array Value) (w : World) (h : 3000 < xs.length) (hm0 : xs.length ≤ 9223372036854775807) :
    Calls Try.prog 5 #[.slice A0 xs.length c0, .int .u32 (nb s), .int .u8 (nb x), .agg T] w fun e w' => e = .returned (.bool true) ∧ Below w.heap.size w w' := by
  go_enter Try.func5, Try.ntmps5
  go_wp2_with fail
  refine (crc_lives _).mono ?_
  rintro e w1 ⟨rfl, hb⟩
  have hB := ((FB.refl w).alloc _).call hb
  clear hb
  go_wp2
  go_ret
  exact ⟨rfl, hB⟩

set_option maxRecDepth 100000 in
set_option maxHeartbeats 4000000 in
theorem crcSums_few (A0 : Option Addr) (c0 : Nat) (xs : List Byte) (s : BitVec 32) (x : Byte) (T : Array Value) (t : Byte → BitVec 32) (w : World) (h3 : xs.length ≤ 3000) (hc0 : xs.length ≤ c0) (hm0 : c0 ≤ maxLen) (hr0 : Rd w A0 xs) (hT : IsTab T t) :
    Calls Try.prog 5 #[.slice A0 xs.length c0, .int .u32 (nb s), .int .u8 (nb x), .agg T] w fun e w' => e = .returned (.bool true) ∧ Below w.heap.size w w' := by
  have HR0 := Lib.hid hr0
  have HT := Lib.hid hT
  clear hr0 hT
  go_enter Try.func5, Try.ntmps5
  go_wp2_with fail
  refine (crc_lives _).mono ?_
  rintro e w1 ⟨rfl, hb⟩
  have HB := Lib.hid (((FB.refl w).alloc (.cells T 31)).call hb)
  have HG := Lib.hid ((Below.block hb w.heap.size (by simp)).trans (heap_alloc_new w (.cells T 31)))
  have HIZ := Lib.hid (size_tab HT.out)
  clear hb
  go_wp2_with fail
  obtain ⟨W0, rfl⟩ : ∃ W0 : World, W0 = w1 := ⟨_, rfl⟩
  refine region_sch (E := FB) ((0, true) :: (3, true) :: (1, false) :: (2, false) :: (4, false) :: (5, true) :: (6, true) :: (7, false) :: (8, false) :: (9, true) :: (10, true) :: (11, true) :: (12, true) :: (13, true) :: (14, true) :: (16, true) :: (17, true) :: (18, true) :: (15, false) :: (19, false) :: (20, true) :: (21, true) :: (22, true) :: (23, true) :: (24, true) :: (25, true) :: (28, true) :: (29, true) :: (30, true) :: (26, false) :: (27, false) :: (31, false) :: (32, true) :: (33, true) :: (34, true) :: []) (by kernel_rfl) FB.refl fb_trans (fun _ _ d _ _ h => by cases d <;> exact h) (by kernel_rfl) ?_
  intro ops hops0
  have hops := Lib.hid hops0
  clear hops0
  have HF : FB W0 W0.drew := (FB.refl _).drew
  generalize W0.drew = wF at *
  repeat (refine sch_take (o := ?_) (v := ?_) (a' := ?_) (at_of hops.out ?_) ?_ (fun W hW => ?_) ?_ ?_; rotate_left 3; (focus (simp only [List.getElem?_toArray, List.getElem?_cons_zero, List.getElem?_cons_succ]; rfl)); (focus (rw [hops.out]; rfl)); (focus (go_simp; with_reducible rfl)); (focus (simp only [Act.put, List.setIfInBounds_toArray, List.set_cons_zero, List.set_cons_succ]; rfl)))
  (refine sch_call (o := ?_) (f := ?_) (args := ?_) (at_of hops.out ?_) ?_ ?_ ?_; rotate_left 3; (focus (simp only [List.getElem?_toArray, List.getElem?_cons_zero, List.getElem?_cons_succ]; rfl)); (focus (rw [hops.out]; rfl)); (focus (go_simp; constructor <;> with_reducible rfl)); (first | ((with_reducible refine (kit_Own xs A0 c0 _ hc0 (by omega) (HF.rd (HB.out.rd HR0.out))).mono ?_); rintro e w' ⟨A', c', rfl, ho, hb⟩; have HO := Lib.hid (Own.info ho); clear ho; refine ⟨_, rfl, hb, ?_⟩; intro a' ha'; simp only [Act.put, List.setIfInBounds_toArray, List.set_cons_zero, List.set_cons_succ] at ha'; subst ha'; replace HF := HF.call hb; clear hb)))
  (refine sch_call (o := ?_) (f := ?_) (args := ?_) (at_of hops.out ?_) ?_ ?_ ?_; rotate_left 3; (focus (simp only [List.getElem?_toArray, List.getElem?_cons_zero, List.getElem?_cons_succ]; rfl)); (focus (rw [hops.out]; rfl)); (focus (go_simp; constructor <;> with_reducible rfl)); (first | ((with_reducible refine (crc_Sum xs A' c' _ HO.out.1 HO.out.2.1 HO.out.2.2.1).mono ?_); rintro e w' ⟨rfl, hb⟩; clear HO; refine ⟨_, rfl, hb, ?_⟩; intro a' ha'; simp only [Act.put, List.setIfInBounds_toArray, List.set_cons_zero, List.set_cons_succ] at ha'; subst ha'; replace HF := HF.call hb; clear hb)))
  (refine sch_call (o := ?_) (f := ?_) (args := ?_) (at_of hops.out ?_) ?_ ?_ ?_; rotate_left 3; (focus (simp only [List.getElem?_toArray, List.getElem?_cons_zero, List.getElem?_cons_succ]; rfl)); (focus (rw [hops.out]; rfl)); (focus (go_simp; constructor <;> with_reducible rfl)); (first | ((with_reducible refine (ref_Sum xs A0 c0 _ hc0 hm0 (HF.rd (HB.out.rd HR0.out))).mono ?_); rintro e w' ⟨rfl, hb⟩; refine ⟨_, rfl, hb, ?_⟩; intro a' ha'; simp only [Act.put, List.setIfInBounds_toArray, List.set_cons_zero, List.set_cons_succ] at ha'; subst ha'; replace HF := HF.call hb; clear hb)))
  repeat (refine sch_take (o := ?_) (v := ?_) (a' := ?_) (at_of hops.out ?_) ?_ (fun W hW => ?_) ?_ ?_; rotate_left 3; (focus (simp only [List.getElem?_toArray, List.getElem?_cons_zero, List.getElem?_cons_succ]; rfl)); (focus (rw [hops.out]; rfl)); (focus (go_simp; with_reducible rfl)); (focus (simp only [Act.put, List.setIfInBounds_toArray, List.set_cons_zero, List.set_cons_succ]; rfl)))
  (refine sch_call (o := ?_) (f := ?_) (args := ?_) (at_of hops.out ?_) ?_ ?_ ?_; rotate_left 3; (focus (simp only [List.getElem?_toArray, List.getElem?_cons_zero, List.getElem?_cons_succ]; rfl)); (focus (rw [hops.out]; rfl)); (focus (go_simp; constructor <;> with_reducible rfl)); (first | ((with_reducible refine (crc_Table _).mono ?_); rintro e w' ⟨T1, rfl, h1, hb⟩; have H1 := Lib.hid h1; clear h1; refine ⟨_, rfl, hb, ?_⟩; intro a' ha'; simp only [Act.put, List.setIfInBounds_toArray, List.set_cons_zero, List.set_cons_succ] at ha'; subst ha'; replace HF := HF.call hb; clear hb)))
  (refine sch_call (o := ?_) (f := ?_) (args := ?_) (at_of hops.out ?_) ?_ ?_ ?_; rotate_left 3; (focus (simp only [List.getElem?_toArray, List.getElem?_cons_zero, List.getElem?_cons_succ]; rfl)); (focus (rw [hops.out]; rfl)); (focus (go_simp; constructor <;> with_reducible rfl)); (first | ((with_reducible refine (ref_Table _).mono ?_); rintro e w' ⟨T2, rfl, h2, hb⟩; obtain rfl := tab_ext H1.out h2; clear h2; refine ⟨_, rfl, hb, ?_⟩; intro a' ha'; simp only [Act.put, List.setIfInBounds_toArray, List.set_cons_zero, List.set_cons_succ] at ha'; subst ha'; replace HF := HF.call hb; clear hb)))
  have hE := eql_tabIn T1 H1.out
  have hG : Try.prog.eqGuardType Try.prog.depth 31 = false := by kernel_rfl
  repeat (first | (refine sch_loadA (o := ?_) (a' := ?_) (at_of hops.out ?_) ?_ 31 (.tmp 7) ?_ w.heap.size ?_ _ T (0, 0) _ (fun W hW => ((HF.trans hW).block _ (Array.getElem?_eq_some_iff.1 HG.out).1).trans HG.out) Try.underlying31 rfl HIZ.out ?_ ?_; rotate_left 2; (focus (simp only [List.getElem?_toArray, List.getElem?_cons_zero, List.getElem?_cons_succ]; rfl)); (focus (rw [hops.out]; rfl)); (focus rfl); (focus rfl); (focus (simp only [Act.put, List.setIfInBounds_toArray, List.set_cons_zero, List.set_cons_succ]; rfl))) | (refine sch_take (o := ?_) (v := ?_) (a' := ?_) (at_of hops.out ?_) ?_ (fun W hW => ?_) ?_ ?_; rotate_left 3; (focus (simp only [List.getElem?_toArray, List.getElem?_cons_zero, List.getElem?_cons_succ]; rfl)); (focus (rw [hops.out]; rfl)); (focus (go_simp; with_reducible rfl)); (focus (simp only [Act.put, List.setIfInBounds_toArray, List.set_cons_zero, List.set_cons_succ]; rfl))))
  clear hE hG
  (refine sch_call (o := ?_) (f := ?_) (args := ?_) (at_of hops.out ?_) ?_ ?_ ?_; rotate_left 3; (focus (simp only [List.getElem?_toArray, List.getElem?_cons_zero, List.getElem?_cons_succ]; rfl)); (focus (rw [hops.out]; rfl)); (focus (go_simp; constructor <;> with_reducible rfl)); (first | ((with_reducible refine (crc_StepB T t s x _ HT.out).mono ?_); rintro e w' ⟨rfl, hb⟩; refine ⟨_, rfl, hb, ?_⟩; intro a' ha'; simp only [Act.put, List.setIfInBounds_toArray, List.set_cons_zero, List.set_cons_succ] at ha'; subst ha'; replace HF := HF.call hb; clear hb)))
  (refine sch_call (o := ?_) (f := ?_) (args := ?_) (at_of hops.out ?_) ?_ ?_ ?_; rotate_left 3; (focus (simp only [List.getElem?_toArray, List.getElem?_cons_zero, List.getElem?_cons_succ]; rfl)); (focus (rw [hops.out]; rfl)); (focus (go_simp; constructor <;> with_reducible rfl)); (first | ((with_reducible refine (ref_StepB T t s x _ HT.out).mono ?_); rintro e w' ⟨rfl, hb⟩; refine ⟨_, rfl, hb, ?_⟩; intro a' ha'; simp only [Act.put, List.setIfInBounds_toArray, List.set_cons_zero, List.set_cons_succ] at ha'; subst ha'; replace HF := HF.call hb; clear hb)))
  repeat (first | (refine sch_loadA (o := ?_) (a' := ?_) (at_of hops.out ?_) ?_ 31 (.tmp 7) ?_ w.heap.size ?_ _ T (0, 0) _ (fun W hW => ((HF.trans hW).block _ (Array.getElem?_eq_some_iff.1 HG.out).1).trans HG.out) Try.underlying31 rfl HIZ.out ?_ ?_; rotate_left 2; (focus (simp only [List.getElem?_toArray, List.getElem?_cons_zero, List.getElem?_cons_succ]; rfl)); (focus (rw [hops.out]; rfl)); (focus rfl); (focus rfl); (focus (simp only [Act.put, List.setIfInBounds_toArray, List.set_cons_zero, List.set_cons_succ]; rfl))) | (refine sch_take (o := ?_) (v := ?_) (a' := ?_) (at_of hops.out ?_) ?_ (fun W hW => ?_) ?_ ?_; rotate_left 3; (focus (simp only [List.getElem?_toArray, List.getElem?_cons_zero, List.getElem?_cons_succ]; rfl)); (focus (rw [hops.out]; rfl)); (focus (go_simp; with_reducible rfl)); (focus (simp only [Act.put, List.setIfInBounds_toArray, List.set_cons_zero, List.set_cons_succ]; rfl))))
  (refine sch_call (o := ?_) (f := ?_) (args := ?_) (at_of hops.out ?_) ?_ ?_ ?_; rotate_left 3; (focus (simp only [List.getElem?_toArray, List.getElem?_cons_zero, List.getElem?_cons_succ]; rfl)); (focus (rw [hops.out]; rfl)); (focus (go_simp; constructor <;> with_reducible rfl)); (first | ((with_reducible refine (kit_Own xs A0 c0 _ hc0 (by omega) (HF.rd (HB.out.rd HR0.out))).mono ?_); rintro e w' ⟨A', c', rfl, ho, hb⟩; have HO := Lib.hid (Own.info ho); clear ho; refine ⟨_, rfl, hb, ?_⟩; intro a' ha'; simp only [Act.put, List.setIfInBounds_toArray, List.set_cons_zero, List.set_cons_succ] at ha'; subst ha'; replace HF := HF.call hb; clear hb)))
  (refine sch_call (o := ?_) (f := ?_) (args := ?_) (at_of hops.out ?_) ?_ ?_ ?_; rotate_left 3; (focus (simp only [List.getElem?_toArray, List.getElem?_cons_zero, List.getElem?_cons_succ]; rfl)); (focus (rw [hops.out]; rfl)); (focus (go_simp; constructor <;> with_reducible rfl)); (first | ((with_reducible refine (crc_OnB T t s xs A' c' _ HO.out.1 HO.out.2.1 HO.out.2.2.1 HT.out).mono ?_); rintro e w' ⟨rfl, hb⟩; clear HO; refine ⟨_, rfl, hb, ?_⟩; intro a' ha'; simp only [Act.put, List.setIfInBounds_toArray, List.set_cons_zero, List.set_cons_succ] at ha'; subst ha'; replace HF := HF.call hb; clear hb)))
  (refine sch_call (o := ?_) (f := ?_) (args := ?_) (at_of hops.out ?_) ?_ ?_ ?_; rotate_left 3; (focus (simp only [List.getElem?_toArray, List.getElem?_cons_zero, List.getElem?_cons_succ]; rfl)); (focus (rw [hops.out]; rfl)); (focus (go_simp; constructor <;> with_reducible rfl)); (first | ((with_reducible refine (ref_OnB T t s xs A0 c0 _ hc0 hm0 (HF.rd (HB.out.rd HR0.out)) HT.out).mono ?_); rintro e w' ⟨rfl, hb⟩; refine ⟨_, rfl, hb, ?_⟩; intro a' ha'; simp only [Act.put, List.setIfInBounds_toArray, List.set_cons_zero, List.set_cons_succ] at ha'; subst ha'; replace HF := HF.call hb; clear hb)))
  repeat (refine sch_take (o := ?_) (v := ?_) (a' := ?_) (at_of hops.out ?_) ?_ (fun W hW => ?_) ?_ ?_; rotate_left 3; (focus (simp only [List.getElem?_toArray, List.getElem?_cons_zero, List.getElem?_cons_succ]; rfl)); (focus (rw [hops.out]; rfl)); (focus (go_simp; with_reducible rfl)); (focus (simp only [Act.put, List.setIfInBounds_toArray, List.set_cons_zero, List.set_cons_succ]; rfl)))
  refine sch_done ?_
  go_wp2
  go_ret
  exact ⟨rfl, HB.out.trans HF⟩

theorem crcSums_walk (A0 : Option Addr) (c0 : Nat) (xs : List Byte) (s : BitVec 32) (x : Byte) (T : Array Value) (t : Byte → BitVec 32) (w : World) (hc0 : xs.length ≤ c0) (hm0 : c0 ≤ maxLen) (hr0 : Rd w A0 xs) (hT : IsTab T t) :
    Calls Try.prog 5 #[.slice A0 xs.length c0, .int .u32 (nb s), .int .u8 (nb x), .agg T] w fun e w' => e = .returned (.bool true) ∧ Below w.heap.size w w' := by
  have e := maxLen_eq
  by_cases h3 : xs.length ≤ 3000
  · exact crcSums_few A0 c0 xs s x T t w h3 hc0 hm0 hr0 hT
  · exact crcSums_much A0 c0 xs s x T w (by omega) (by omega)

section
variable {H : Type} {enc : TypeId × Value → H} {W : World} {v : Value} {d : DataW H} {p : List MemPlace}
/-- A table that came in by value. -/
theorem open_tab {r : Reach} {b0 : Nat} {base : Nat} {spare : Nat → Bool} {held : Bool} (hv : Value.okWide Try.prog W r b0 31 v) (h : DataW.Trod enc Try.prog W base spare held 31 v d p) :
    ∃ T t, v = .agg T ∧ IsTab T t := by
  simp only [Value.okWide, Try.underlying31] at hv
  obtain ⟨cs, rfl, hsz, _⟩ := hv
  obtain ⟨fuel, hf⟩ := h
  have hc : Try.prog.cellsOf 23 = 1 := by kernel_rfl
  have hct : Try.prog.cellsOf 31 = 256 := by kernel_rfl
  rw [hct] at hsz
  obtain ⟨xs, m, rfl, hx, hl, hn, hget⟩ := DataW.trod_array (P := Try.prog) Try.underlying31 hf
  have hcell : ∀ i, i < 256 → ∃ z : BitVec 32, cs[i]? = some (.int .u32 (nb z)) := fun i hi => by
    have h1 := hget i hi
    rw [hc, Nat.mul_one, List.getElem?_eq_getElem (by omega)] at h1
    obtain ⟨z, h2, _, hw⟩ := DataW.trod_int Try.underlying23 h1
    obtain ⟨b, rfl⟩ := wf_u32 hw
    have h3 := congrArg (fun l : List Value => l[0]?) h2
    simp only [Value.cells, List.getElem?_take, List.getElem?_drop] at h3
    exact ⟨b, by simpa using h3⟩
  have hsome : ∀ b : Byte, ∃ z : BitVec 32, cs[b.toNat]? = some (.int .u32 (nb z)) := fun b => hcell _ b.isLt
  refine ⟨cs, fun b => Classical.choose (hsome b), rfl, hsz, fun b => ?_⟩
  rw [show (nb b).toNat = b.toNat from by simp [nb]]
  exact Classical.choose_spec (hsome b)
end
end Go.Proofs.Ytoacmcfildmijaa
