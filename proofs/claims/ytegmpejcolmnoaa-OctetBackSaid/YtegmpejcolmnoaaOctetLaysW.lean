/- The walk of OctetLays. -/
import Derived.Test.YtegmpejcolmnoaaOctW
import Derived.Test.YtegmpejcolmnoaaSched
set_option linter.unusedVariables false
set_option linter.unusedSimpArgs false
namespace Go.Proofs.Ytegmpejcolmnoaa
open Go.ChangeShapes Go.WideShapes Go.ChangeAt Go.RowKit

theorem calls_slice {P : Program} {f : FuncId} {args : Array Value} {w : World} {Y : List Byte} (h : Calls P f args w fun e w' => ∃ v, e = .returned v ∧ Own w' w.heap.size v Y ∧ Below w.heap.size w w') :
    Calls P f args w fun e w' => ∃ A c, e = .returned (.slice A Y.length c) ∧ Rd w' A Y ∧ Below w.heap.size w w' :=
  h.mono fun e w' ⟨v, h1, h2, h3⟩ => by
    obtain ⟨A, c, rfl, h4⟩ := own_str (w := w) h2
    exact ⟨A, c, h1, h4, h3⟩

set_option maxRecDepth 100000 in
set_option maxHeartbeats 2000000 in
theorem octetLays_few (A0 : Option Addr) (c0 : Nat) (xs : List Byte) (A1 : Option Addr) (c1 : Nat) (zs : List Byte) (m : BitVec 64) (z : Int) (w : World) (h0 : xs.length ≤ 3000) (h1 : zs.length ≤ 3000) (hc0 : xs.length ≤ c0) (hm0 : c0 ≤ maxLen) (hr0 : Rd w A0 xs) (hr1 : Rd w A1 zs) :
    Calls Try.prog 5 #[.slice A0 xs.length c0, .slice A1 zs.length c1, .int .u64 (nb m), .int .i64 z] w fun e w' => e = .returned (.bool true) ∧ Below w.heap.size w w' := by
  have HR0 := Lib.hid hr0
  have HR1 := Lib.hid hr1
  clear hr0 hr1
  have HOwn := Lib.hid (fun (W : World) (hW : Rd W A0 xs) => kit_Own xs A0 c0 W hc0 (by omega) hW)
  obtain ⟨Y1, hY1⟩ : ∃ Y1, Y1 = xs ++ onum m := ⟨_, rfl⟩
  obtain ⟨Y2, hY2⟩ : ∃ Y2, Y2 = xs ++ owordZ z m := ⟨_, rfl⟩
  obtain ⟨Y3, hY3⟩ : ∃ Y3, Y3 = xs ++ oblock zs := ⟨_, rfl⟩
  have HN := Lib.hid (fun (W : World) (A : Option Addr) (c : Nat) (hW : Rd W A xs) => calls_slice (oct_Number xs A _ c m W rfl (by omega) hW))
  have HNr := Lib.hid (fun (W : World) (A : Option Addr) (c : Nat) (hW : Rd W A xs) => calls_slice (ref_Number xs A _ c m W rfl (by omega) hW))
  have HW := Lib.hid (fun (W : World) (A : Option Addr) (c : Nat) (hc : xs.length ≤ c) (hm : c ≤ maxLen) (hW : Rd W A xs) => calls_slice (oct_Word xs A _ c m z W rfl hc hm (by omega) hW))
  have HWr := Lib.hid (fun (W : World) (A : Option Addr) (c : Nat) (hW : Rd W A xs) => calls_slice (ref_WordZ xs A _ c m z W rfl (by omega) hW))
  have HB := Lib.hid (fun (W : World) (A : Option Addr) (c : Nat) (hW : Rd W A xs) (hZ : Rd W A1 zs) => calls_slice (oct_Block xs zs A A1 _ c _ c1 W rfl rfl (by omega) (by omega) hW hZ))
  have HBr := Lib.hid (fun (W : World) (A : Option Addr) (c : Nat) (hW : Rd W A xs) (hZ : Rd W A1 zs) => calls_slice (ref_Block xs zs A A1 _ c _ c1 W rfl rfl (by omega) (by omega) hW hZ))
  rw [← hY1] at HN HNr
  rw [← hY2] at HW HWr
  rw [← hY3] at HB HBr
  clear hY1 hY2 hY3
  go_enter Try.func5, Try.ntmps5
  go_wp2_with fail
  refine (oct_lives _).mono ?_
  rintro e w1 ⟨rfl, hb⟩
  have HBW := Lib.hid ((FB.refl w).call hb)
  clear hb
  go_wp2_with fail
  have HRA := Lib.hid (HBW.out.rd HR0.out)
  have HRZ := Lib.hid (HBW.out.rd HR1.out)
  obtain ⟨W0, hW0⟩ : ∃ W0 : World, W0 = w1 := ⟨_, rfl⟩
  subst hW0
  refine region_sch (E := FB) (((0, true) :: (2, true) :: (5, true) :: (6, true) :: (1, false) :: (3, false) :: (4, true) :: (7, false) :: (8, true) :: (9, true) :: (10, true) :: (11, true) :: (13, true) :: (14, true) :: (17, true) :: (18, true) :: (19, true) :: (12, false) :: (15, false) :: (16, true) :: (20, false) :: (21, true) :: (22, true) :: (23, true) :: (24, true) :: (25, true) :: (27, true) :: (30, true) :: (31, true) :: (26, false) :: (28, false) :: (29, true) :: (32, false) :: (33, true) :: (34, true) :: (35, true) :: (36, true) :: (37, true) :: (39, true) :: (38, false) :: (40, false) :: (41, true) :: (42, true) :: (43, true) :: [])) (by kernel_rfl) FB.refl fb_trans (fun _ _ d _ _ h => by cases d <;> exact h) (by kernel_rfl) ?_
  intro ops hops0
  have hops := Lib.hid hops0
  clear hops0
  have HF : FB W0 W0.drew := (FB.refl _).drew
  generalize W0.drew = wF at *
  repeat (refine sch_take (o := ?_) (v := ?_) (a' := ?_) (at_of hops.out ?_) ?_ (fun W hW => ?_) ?_ ?_; rotate_left 3; (focus (simp only [List.getElem?_toArray, List.getElem?_cons_zero, List.getElem?_cons_succ]; rfl)); (focus (rw [hops.out]; rfl)); (focus (go_simp; with_reducible rfl)); (focus (simp only [Act.put, List.setIfInBounds_toArray, List.set_cons_zero, List.set_cons_succ]; rfl)))
  (refine sch_call (o := ?_) (f := ?_) (args := ?_) (at_of hops.out ?_) ?_ ?_ ?_; rotate_left 3; (focus (simp only [List.getElem?_toArray, List.getElem?_cons_zero, List.getElem?_cons_succ]; rfl)); (focus (rw [hops.out]; rfl)); (focus (go_simp; constructor <;> with_reducible rfl)); (first | ((with_reducible refine (HOwn.out _ (HF.rd HRA.out)).mono ?_); rintro e w' ⟨A2, c2, rfl, ho, hb⟩; have HO := Lib.hid (Own.info ho); clear ho; refine ⟨_, rfl, hb, ?_⟩; intro a' ha'; simp only [Act.put, List.setIfInBounds_toArray, List.set_cons_zero, List.set_cons_succ] at ha'; subst ha'; replace HF := HF.call hb; clear hb)))
  (refine sch_call (o := ?_) (f := ?_) (args := ?_) (at_of hops.out ?_) ?_ ?_ ?_; rotate_left 3; (focus (simp only [List.getElem?_toArray, List.getElem?_cons_zero, List.getElem?_cons_succ]; rfl)); (focus (rw [hops.out]; rfl)); (focus (go_simp; constructor <;> with_reducible rfl)); (first | ((with_reducible refine (HN.out _ A2 c2 HO.out.2.2.1).mono ?_); rintro e w' ⟨A3, c3, rfl, hr, hb⟩; have HS := Lib.hid hr; clear hr; refine ⟨_, rfl, hb, ?_⟩; intro a' ha'; simp only [Act.put, List.setIfInBounds_toArray, List.set_cons_zero, List.set_cons_succ] at ha'; subst ha'; replace HF := HF.call hb; clear hb)))
  (refine sch_take (o := ?_) (v := ?_) (a' := ?_) (at_of hops.out ?_) ?_ (fun W hW => ?_) ?_ ?_; rotate_left 3; (focus (simp only [List.getElem?_toArray, List.getElem?_cons_zero, List.getElem?_cons_succ]; rfl)); (focus (rw [hops.out]; rfl)); (focus (have q := run_string c3 (FB.rd hW HS.out); go_simp; with_reducible rfl)); (focus (simp only [Act.put, List.setIfInBounds_toArray, List.set_cons_zero, List.set_cons_succ]; rfl)))
  clear HO HS
  (refine sch_call (o := ?_) (f := ?_) (args := ?_) (at_of hops.out ?_) ?_ ?_ ?_; rotate_left 3; (focus (simp only [List.getElem?_toArray, List.getElem?_cons_zero, List.getElem?_cons_succ]; rfl)); (focus (rw [hops.out]; rfl)); (focus (go_simp; constructor <;> with_reducible rfl)); (first | ((with_reducible refine (HNr.out _ A0 c0 (HF.rd HRA.out)).mono ?_); rintro e w' ⟨A3, c3, rfl, hr, hb⟩; have HS := Lib.hid hr; clear hr; refine ⟨_, rfl, hb, ?_⟩; intro a' ha'; simp only [Act.put, List.setIfInBounds_toArray, List.set_cons_zero, List.set_cons_succ] at ha'; subst ha'; replace HF := HF.call hb; clear hb)))
  (refine sch_take (o := ?_) (v := ?_) (a' := ?_) (at_of hops.out ?_) ?_ (fun W hW => ?_) ?_ ?_; rotate_left 3; (focus (simp only [List.getElem?_toArray, List.getElem?_cons_zero, List.getElem?_cons_succ]; rfl)); (focus (rw [hops.out]; rfl)); (focus (have q := run_string c3 (FB.rd hW HS.out); go_simp; with_reducible rfl)); (focus (simp only [Act.put, List.setIfInBounds_toArray, List.set_cons_zero, List.set_cons_succ]; rfl)))
  clear HS
  repeat (refine sch_take (o := ?_) (v := ?_) (a' := ?_) (at_of hops.out ?_) ?_ (fun W hW => ?_) ?_ ?_; rotate_left 3; (focus (simp only [List.getElem?_toArray, List.getElem?_cons_zero, List.getElem?_cons_succ]; rfl)); (focus (rw [hops.out]; rfl)); (focus (go_simp; with_reducible rfl)); (focus (simp only [Act.put, List.setIfInBounds_toArray, List.set_cons_zero, List.set_cons_succ]; rfl)))
  (refine sch_call (o := ?_) (f := ?_) (args := ?_) (at_of hops.out ?_) ?_ ?_ ?_; rotate_left 3; (focus (simp only [List.getElem?_toArray, List.getElem?_cons_zero, List.getElem?_cons_succ]; rfl)); (focus (rw [hops.out]; rfl)); (focus (go_simp; constructor <;> with_reducible rfl)); (first | ((with_reducible refine (HOwn.out _ (HF.rd HRA.out)).mono ?_); rintro e w' ⟨A2, c2, rfl, ho, hb⟩; have HO := Lib.hid (Own.info ho); clear ho; refine ⟨_, rfl, hb, ?_⟩; intro a' ha'; simp only [Act.put, List.setIfInBounds_toArray, List.set_cons_zero, List.set_cons_succ] at ha'; subst ha'; replace HF := HF.call hb; clear hb)))
  (refine sch_call (o := ?_) (f := ?_) (args := ?_) (at_of hops.out ?_) ?_ ?_ ?_; rotate_left 3; (focus (simp only [List.getElem?_toArray, List.getElem?_cons_zero, List.getElem?_cons_succ]; rfl)); (focus (rw [hops.out]; rfl)); (focus (go_simp; constructor <;> with_reducible rfl)); (first | ((with_reducible refine (HW.out _ A2 c2 HO.out.1 HO.out.2.1 HO.out.2.2.1).mono ?_); rintro e w' ⟨A3, c3, rfl, hr, hb⟩; have HS := Lib.hid hr; clear hr; refine ⟨_, rfl, hb, ?_⟩; intro a' ha'; simp only [Act.put, List.setIfInBounds_toArray, List.set_cons_zero, List.set_cons_succ] at ha'; subst ha'; replace HF := HF.call hb; clear hb)))
  (refine sch_take (o := ?_) (v := ?_) (a' := ?_) (at_of hops.out ?_) ?_ (fun W hW => ?_) ?_ ?_; rotate_left 3; (focus (simp only [List.getElem?_toArray, List.getElem?_cons_zero, List.getElem?_cons_succ]; rfl)); (focus (rw [hops.out]; rfl)); (focus (have q := run_string c3 (FB.rd hW HS.out); go_simp; with_reducible rfl)); (focus (simp only [Act.put, List.setIfInBounds_toArray, List.set_cons_zero, List.set_cons_succ]; rfl)))
  clear HO HS
  (refine sch_call (o := ?_) (f := ?_) (args := ?_) (at_of hops.out ?_) ?_ ?_ ?_; rotate_left 3; (focus (simp only [List.getElem?_toArray, List.getElem?_cons_zero, List.getElem?_cons_succ]; rfl)); (focus (rw [hops.out]; rfl)); (focus (go_simp; constructor <;> with_reducible rfl)); (first | ((with_reducible refine (HWr.out _ A0 c0 (HF.rd HRA.out)).mono ?_); rintro e w' ⟨A3, c3, rfl, hr, hb⟩; have HS := Lib.hid hr; clear hr; refine ⟨_, rfl, hb, ?_⟩; intro a' ha'; simp only [Act.put, List.setIfInBounds_toArray, List.set_cons_zero, List.set_cons_succ] at ha'; subst ha'; replace HF := HF.call hb; clear hb)))
  (refine sch_take (o := ?_) (v := ?_) (a' := ?_) (at_of hops.out ?_) ?_ (fun W hW => ?_) ?_ ?_; rotate_left 3; (focus (simp only [List.getElem?_toArray, List.getElem?_cons_zero, List.getElem?_cons_succ]; rfl)); (focus (rw [hops.out]; rfl)); (focus (have q := run_string c3 (FB.rd hW HS.out); go_simp; with_reducible rfl)); (focus (simp only [Act.put, List.setIfInBounds_toArray, List.set_cons_zero, List.set_cons_succ]; rfl)))
  clear HS
  repeat (refine sch_take (o := ?_) (v := ?_) (a' := ?_) (at_of hops.out ?_) ?_ (fun W hW => ?_) ?_ ?_; rotate_left 3; (focus (simp only [List.getElem?_toArray, List.getElem?_cons_zero, List.getElem?_cons_succ]; rfl)); (focus (rw [hops.out]; rfl)); (focus (go_simp; with_reducible rfl)); (focus (simp only [Act.put, List.setIfInBounds_toArray, List.set_cons_zero, List.set_cons_succ]; rfl)))
  (refine sch_call (o := ?_) (f := ?_) (args := ?_) (at_of hops.out ?_) ?_ ?_ ?_; rotate_left 3; (focus (simp only [List.getElem?_toArray, List.getElem?_cons_zero, List.getElem?_cons_succ]; rfl)); (focus (rw [hops.out]; rfl)); (focus (go_simp; constructor <;> with_reducible rfl)); (first | ((with_reducible refine (HOwn.out _ (HF.rd HRA.out)).mono ?_); rintro e w' ⟨A2, c2, rfl, ho, hb⟩; have HO := Lib.hid (Own.info ho); clear ho; refine ⟨_, rfl, hb, ?_⟩; intro a' ha'; simp only [Act.put, List.setIfInBounds_toArray, List.set_cons_zero, List.set_cons_succ] at ha'; subst ha'; replace HF := HF.call hb; clear hb)))
  (refine sch_call (o := ?_) (f := ?_) (args := ?_) (at_of hops.out ?_) ?_ ?_ ?_; rotate_left 3; (focus (simp only [List.getElem?_toArray, List.getElem?_cons_zero, List.getElem?_cons_succ]; rfl)); (focus (rw [hops.out]; rfl)); (focus (go_simp; constructor <;> with_reducible rfl)); (first | ((with_reducible refine (HB.out _ A2 c2 HO.out.2.2.1 (HF.rd HRZ.out)).mono ?_); rintro e w' ⟨A3, c3, rfl, hr, hb⟩; have HS := Lib.hid hr; clear hr; refine ⟨_, rfl, hb, ?_⟩; intro a' ha'; simp only [Act.put, List.setIfInBounds_toArray, List.set_cons_zero, List.set_cons_succ] at ha'; subst ha'; replace HF := HF.call hb; clear hb)))
  (refine sch_take (o := ?_) (v := ?_) (a' := ?_) (at_of hops.out ?_) ?_ (fun W hW => ?_) ?_ ?_; rotate_left 3; (focus (simp only [List.getElem?_toArray, List.getElem?_cons_zero, List.getElem?_cons_succ]; rfl)); (focus (rw [hops.out]; rfl)); (focus (have q := run_string c3 (FB.rd hW HS.out); go_simp; with_reducible rfl)); (focus (simp only [Act.put, List.setIfInBounds_toArray, List.set_cons_zero, List.set_cons_succ]; rfl)))
  clear HO HS
  (refine sch_call (o := ?_) (f := ?_) (args := ?_) (at_of hops.out ?_) ?_ ?_ ?_; rotate_left 3; (focus (simp only [List.getElem?_toArray, List.getElem?_cons_zero, List.getElem?_cons_succ]; rfl)); (focus (rw [hops.out]; rfl)); (focus (go_simp; constructor <;> with_reducible rfl)); (first | ((with_reducible refine (HBr.out _ A0 c0 (HF.rd HRA.out) (HF.rd HRZ.out)).mono ?_); rintro e w' ⟨A3, c3, rfl, hr, hb⟩; have HS := Lib.hid hr; clear hr; refine ⟨_, rfl, hb, ?_⟩; intro a' ha'; simp only [Act.put, List.setIfInBounds_toArray, List.set_cons_zero, List.set_cons_succ] at ha'; subst ha'; replace HF := HF.call hb; clear hb)))
  (refine sch_take (o := ?_) (v := ?_) (a' := ?_) (at_of hops.out ?_) ?_ (fun W hW => ?_) ?_ ?_; rotate_left 3; (focus (simp only [List.getElem?_toArray, List.getElem?_cons_zero, List.getElem?_cons_succ]; rfl)); (focus (rw [hops.out]; rfl)); (focus (have q := run_string c3 (FB.rd hW HS.out); go_simp; with_reducible rfl)); (focus (simp only [Act.put, List.setIfInBounds_toArray, List.set_cons_zero, List.set_cons_succ]; rfl)))
  clear HS
  repeat (refine sch_take (o := ?_) (v := ?_) (a' := ?_) (at_of hops.out ?_) ?_ (fun W hW => ?_) ?_ ?_; rotate_left 3; (focus (simp only [List.getElem?_toArray, List.getElem?_cons_zero, List.getElem?_cons_succ]; rfl)); (focus (rw [hops.out]; rfl)); (focus (go_simp; with_reducible rfl)); (focus (simp only [Act.put, List.setIfInBounds_toArray, List.set_cons_zero, List.set_cons_succ]; rfl)))
  (refine sch_call (o := ?_) (f := ?_) (args := ?_) (at_of hops.out ?_) ?_ ?_ ?_; rotate_left 3; (focus (simp only [List.getElem?_toArray, List.getElem?_cons_zero, List.getElem?_cons_succ]; rfl)); (focus (rw [hops.out]; rfl)); (focus (go_simp; constructor <;> with_reducible rfl)); (first | ((with_reducible refine (oct_Size m _).mono ?_); rintro e w' ⟨rfl, hb⟩; refine ⟨_, rfl, hb, ?_⟩; intro a' ha'; simp only [Act.put, List.setIfInBounds_toArray, List.set_cons_zero, List.set_cons_succ] at ha'; subst ha'; replace HF := HF.call hb; clear hb)))
  (refine sch_call (o := ?_) (f := ?_) (args := ?_) (at_of hops.out ?_) ?_ ?_ ?_; rotate_left 3; (focus (simp only [List.getElem?_toArray, List.getElem?_cons_zero, List.getElem?_cons_succ]; rfl)); (focus (rw [hops.out]; rfl)); (focus (go_simp; constructor <;> with_reducible rfl)); (first | ((with_reducible refine (ref_Size m _).mono ?_); rintro e w' ⟨rfl, hb⟩; refine ⟨_, rfl, hb, ?_⟩; intro a' ha'; simp only [Act.put, List.setIfInBounds_toArray, List.set_cons_zero, List.set_cons_succ] at ha'; subst ha'; replace HF := HF.call hb; clear hb)))
  repeat (refine sch_take (o := ?_) (v := ?_) (a' := ?_) (at_of hops.out ?_) ?_ (fun W hW => ?_) ?_ ?_; rotate_left 3; (focus (simp only [List.getElem?_toArray, List.getElem?_cons_zero, List.getElem?_cons_succ]; rfl)); (focus (rw [hops.out]; rfl)); (focus (go_simp; with_reducible rfl)); (focus (simp only [Act.put, List.setIfInBounds_toArray, List.set_cons_zero, List.set_cons_succ]; rfl)))
  refine sch_done ?_
  have HFF := Lib.hid (HBW.out.trans HF)
  clear hops HF
  go_wp2
  go_ret
  exact ⟨by simp, HFF.out⟩

set_option maxRecDepth 100000 in
set_option maxHeartbeats 400000 in
theorem octetLays_much (A0 : Option Addr) (c0 : Nat) (xs : List Byte) (A1 : Option Addr) (c1 : Nat) (zs : List Byte) (m : BitVec 64) (z : Int) (w : World) (h : 3000 < xs.length ∨ (xs.length ≤ 3000 ∧ 3000 < zs.length)) :
    Calls Try.prog 5 #[.slice A0 xs.length c0, .slice A1 zs.length c1, .int .u64 (nb m), .int .i64 z] w fun e w' => e = .returned (.bool true) ∧ Below w.heap.size w w' := by
  rcases h with h | ⟨h, h'⟩
  all_goals
    go_enter Try.func5, Try.ntmps5
    go_wp2_with fail
    refine (oct_lives _).mono ?_
    rintro e w1 ⟨rfl, hb⟩
    have HBW := Lib.hid ((FB.refl w).call hb)
    clear hb
    go_wp2
    go_ret
    exact ⟨rfl, HBW.out⟩
theorem octetLays_walk (A0 : Option Addr) (c0 : Nat) (xs : List Byte) (A1 : Option Addr) (c1 : Nat) (zs : List Byte) (m : BitVec 64) (z : Int) (w : World) (hc0 : xs.length ≤ c0) (hm0 : c0 ≤ maxLen) (hr0 : Rd w A0 xs) (hc1 : zs.length ≤ c1) (hm1 : c1 ≤ maxLen) (hr1 : Rd w A1 zs) (_hw : -9223372036854775808 ≤ z ∧ z ≤ 9223372036854775807) :
    Calls Try.prog 5 #[.slice A0 xs.length c0, .slice A1 zs.length c1, .int .u64 (nb m), .int .i64 z] w fun e w' => e = .returned (.bool true) ∧ Below w.heap.size w w' := by
  by_cases h : xs.length ≤ 3000 ∧ zs.length ≤ 3000
  · exact octetLays_few A0 c0 xs A1 c1 zs m z w h.1 h.2 hc0 hm0 hr0 hr1
  · exact octetLays_much A0 c0 xs A1 c1 zs m z w (by omega)
end Go.Proofs.Ytegmpejcolmnoaa
