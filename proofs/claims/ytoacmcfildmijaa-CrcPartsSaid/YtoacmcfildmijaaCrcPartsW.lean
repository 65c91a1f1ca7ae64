/- The walk of CrcParts. -/
import Derived.Test.YtoacmcfildmijaaCrcL
import Derived.Test.YtoacmcfildmijaaCrcT
import Derived.Test.YtoacmcfildmijaaSched
set_option linter.unusedVariables false
set_option linter.unusedSimpArgs false
namespace Go.Proofs.Ytoacmcfildmijaa
open Go.ChangeShapes Go.WideShapes Go.ChangeAt Go.RowKit
attribute [local go_sem] nb_beq nb_bne bits_xor32 bits_xor8 bits_not32 BitVec.setWidth_eq nb_nonneg nb_lt8

theorem info_bytes : (Try.prog.info? 22).map (fun i => (i.zero, i.size, i.bytes)) = some (some (.slice none 0 0), 1, 24) := by kernel_rfl
/-- These values are slices that read as these lists. -/
def SlL (w : World) (vs : List Value) (ls : List (List Byte)) : Prop :=
  vs.length = ls.length ∧ ∀ i, (hi : i < ls.length) → ∃ A c, vs[i]? = some (.slice A ls[i].length c) ∧ ls[i].length ≤ c ∧ c ≤ maxLen ∧ Rd w A ls[i]
theorem SlL.nil (w : World) : SlL w [] [] := ⟨rfl, fun i hi => by simp at hi⟩
theorem SlL.snoc {w : World} {vs : List Value} {ls : List (List Byte)} (h : SlL w vs ls) {A : Option Addr} {n c : Nat} {xs : List Byte} (hn : n = xs.length) (hc : xs.length ≤ c) (hm : c ≤ maxLen) (hr : Rd w A xs) : SlL w (vs ++ [.slice A n c]) (ls ++ [xs]) := by
  subst hn
  refine ⟨by simp [h.1], fun i hi => ?_⟩
  simp only [List.length_append, List.length_singleton] at hi
  by_cases hlt : i < ls.length
  · obtain ⟨A', c', h1, h2, h3, h4⟩ := h.2 i hlt
    refine ⟨A', c', ?_, ?_, h3, ?_⟩
    · rw [List.getElem?_append_left (by rw [h.1]; exact hlt), List.getElem_append_left hlt]; exact h1
    · rw [List.getElem_append_left hlt]; exact h2
    · rw [List.getElem_append_left hlt]; exact h4
  · obtain rfl : i = ls.length := by omega
    have hx : (ls ++ [xs])[ls.length]'(by simp) = xs := by simp
    rw [hx]
    exact ⟨A, c, by simp [← h.1], hc, hm, hr⟩
theorem SlL.oneCell {w : World} {vs : List Value} {ls : List (List Byte)} (h : SlL w vs ls) : ∀ u ∈ vs, u.oneCell' = true := by
  intro u hu
  obtain ⟨i, hi, rfl⟩ := List.mem_iff_getElem.1 hu
  obtain ⟨A, c, h1, _⟩ := h.2 i (by rw [← h.1]; exact hi)
  rw [List.getElem?_eq_getElem hi] at h1
  rw [Option.some.inj h1]; rfl
theorem SlL.rdl {w w' : World} {A : Option Addr} {vs : List Value} {ls : List (List Byte)} (h : SlL w vs ls) (hr : RdV w' A vs) (hF : FB w w') : RdL w' A ls := fun i hi => by
  obtain ⟨b, o, h1, h2⟩ := hr i (by rw [h.1]; exact hi)
  obtain ⟨A', c, h3, h4, h5, h6⟩ := h.2 i hi
  rw [List.getElem?_eq_getElem (by rw [h.1]; exact hi)] at h3
  exact ⟨b, o, A', c, h1, by rw [h2, Option.some.inj h3], h4, h5, hF.rd h6⟩
theorem crcOns_flatten (t : Byte → BitVec 32) (ls : List (List Byte)) (s : BitVec 32) : ls.foldl (crcOn t) s = crcOn t s ls.flatten := by
  induction ls generalizing s with
  | nil => simp [crcOn]
  | cons x ls ih => simp only [List.foldl_cons, List.flatten_cons, ih, crcOn_append]

theorem crc_OnC (T : Array Value) (s : BitVec 32) (xs : List Byte) (A : Option Addr) (n c : Nat) (w : World) (hn : n = xs.length) (hc : xs.length ≤ c) (hm : c ≤ maxLen) (hr : Rd w A xs) (hT : TabTo T 256) :
    Calls Try.prog 12 #[.agg T, .int .u32 (nb s), .slice A n c] w fun e w' => e = .returned (.int .u32 (nb (crcOn crcT s xs))) ∧ Below w.heap.size w w' := by
  subst hn
  exact (crc_On T crcT s xs A c w hc hm hr hT.tab).mono fun e w' ⟨h1, h2⟩ => ⟨h1, h2 ▸ (FB.refl w).alloc _⟩
theorem crc_StepC (T : Array Value) (s : BitVec 32) (b : Byte) (w : World) (hT : TabTo T 256) :
    Calls Try.prog 15 #[.agg T, .int .u32 (nb s), .int .u8 (nb b)] w fun e w' => e = .returned (.int .u32 (nb (crcStep crcT s b))) ∧ Below w.heap.size w w' :=
  (crc_Step T crcT s b w hT.tab).mono fun e w' ⟨h1, h2⟩ => ⟨h1, h2 ▸ (FB.refl w).alloc _⟩

/-- What holds at the head of a round: what has been cut off, and what is left. -/
structure PR (w wt wr : World) (T : Array Value) (xs : List Byte) (k : Nat) (ls : List (List Byte)) (ys : List Byte) (A : Option Addr) (c : Nat) (p : Value) (vs : List Value) : Prop where
  flat : ls.flatten ++ ys = xs
  len : ls.length = k
  yc : ys.length ≤ c
  cm : c ≤ maxLen
  rd : Rd w A ys
  sl : SlL w vs ls
  own : OwnV 22 wr wt.heap.size p vs
  fb : FB wt wr
theorem PR.tab {w wt wr : World} {T : Array Value} {xs : List Byte} {k g : Nat} {ls : List (List Byte)} {ys : List Byte} {A : Option Addr} {c : Nat} {p : Value} {vs : List Value} (h : PR w wt wr T xs k ls ys A c p vs)
    (hg : wt.heap[g]? = some (.cells T 31 (0, 0))) : wr.heap[g]? = some (.cells T 31 (0, 0)) :=
  (h.fb.block _ (Array.getElem?_eq_some_iff.1 hg).1).trans hg
theorem pick_nat (z : Int) (n : Nat) (hn : n ≤ 1000000) : ∃ k : Nat, pick z ((n : Int) + 1) = (k : Int) ∧ k ≤ n := by
  have := pick_range z ((n : Int) + 1) (by omega)
  exact ⟨(pick z ((n : Int) + 1)).toNat, by omega, by omega⟩
theorem Pick_nat (z : Int) (n k : Nat) (w : World) (hn : n ≤ 1000000) (hk : pick z ((n : Int) + 1) = (k : Int)) : Calls Try.prog 10 #[.int .i64 z, .int .i64 ((n : Int) + 1)] w fun e w' => e = .returned (.int .i64 (k : Int)) ∧ w = w' := by
  rw [← hk]
  exact kit_Pick z _ w (by omega) (by omega)

set_option maxRecDepth 100000 in
set_option maxHeartbeats 1000000 in
/-- Too many bytes, or positions: nothing is gone through. -/
theorem crcParts_much (A0 : Option Addr) (c0 : Nat) (xs : List Byte) (A1 : Option Addr) (c1 : Nat) (zs : List Int) (w : World) (h : 3000 < xs.length ∨ (xs.length ≤ 3000 ∧ 20 < zs.length)) (hm0 : xs.length ≤ 9223372036854775807) (hm1 : zs.length ≤ 9223372036854775807) :
    Calls Try.prog 6 #[.slice A0 xs.length c0, .slice A1 zs.length c1] w fun e w' => e = .returned (.bool true) ∧ Below w.heap.size w w' := by
  rcases h with h | ⟨h, h'⟩
  · go_enter Try.func6, Try.ntmps6
    go_wp2_with fail
    refine (crc_lives _).mono ?_
    rintro e w1 ⟨rfl, hb⟩
    have hB := (FB.refl w).call hb
    clear hb
    go_wp2
    go_ret
    exact ⟨rfl, hB⟩
  · go_enter Try.func6, Try.ntmps6
    go_wp2_with fail
    refine (crc_lives _).mono ?_
    rintro e w1 ⟨rfl, hb⟩
    have hB := (FB.refl w).call hb
    clear hb
    go_wp2
    go_ret
    exact ⟨rfl, hB⟩

set_option maxRecDepth 100000 in
set_option maxHeartbeats 4000000 in
theorem crcParts_few (A0 : Option Addr) (c0 : Nat) (xs : List Byte) (A1 : Option Addr) (c1 : Nat) (zs : List Int) (w : World) (h3 : xs.length ≤ 3000) (h20 : zs.length ≤ 20) (hc0 : xs.length ≤ c0) (hm0 : c0 ≤ maxLen) (hr0 : Rd w A0 xs)
    (hc1 : zs.length ≤ c1) (hr1 : RdV w A1 (zs.map (Value.int .i64))) :
    Calls Try.prog 6 #[.slice A0 xs.length c0, .slice A1 zs.length c1] w fun e w' => e = .returned (.bool true) ∧ Below w.heap.size w w' := by
  have hz := (zero_of_info zero_tab).1
  have HR0 := Lib.hid hr0
  have HR1 := Lib.hid hr1
  clear hr0 hr1
  go_enter Try.func6, Try.ntmps6
  go_wp2_with fail
  refine (crc_lives _).mono ?_
  rintro e w1 ⟨rfl, hb⟩
  have hB := (FB.refl w).call hb
  clear hb
  go_wp2_with fail
  refine (crc_Table _).mono ?_
  rintro e w2 ⟨T, rfl, hT, hb⟩
  replace hB := hB.call hb
  have HT := Lib.hid hT
  clear hb hT
  have hs := run_storeAt_new (P := Try.prog) w2 31 zeroTab T (tab_size HT.out) (by rw [zeroTab_size, HT.out.1]) (tab_all HT.out)
  go_wp2_with (refine wpList_store_by rfl _ _ _ rfl _ hs ?_)
  clear hz hs
  have hgT : (w2.alloc (.cells T 31)).heap[w2.heap.size]? = some (.cells T 31 (0, 0)) := heap_alloc_new _ _
  have HGT := Lib.hid hgT
  have HF0 := Lib.hid (hB.alloc (.cells T 31))
  clear hgT hB
  generalize hwt : w2.alloc (.cells T 31) = wt at *
  have hwz : wt.heap.size = w2.heap.size + 1 := by rw [← hwt]; simp
  have HWZ := Lib.hid hwz
  clear hwt hwz
  go_loopw [6, 8, 9, 10, 11] (fun s p r i _ wr => ∃ (k : Nat) (ls : List (List Byte)) (ys : List Byte) (A : Option Addr) (c : Nat) (vs : List Value), k ≤ zs.length ∧ i = .int .i64 k ∧ s = .int .u32 (nb (crcOn crcT 0#32 ls.flatten)) ∧ r = .slice A ys.length c ∧ Hid (PR w wt wr T xs k ls ys A c p vs)) (fun _ _ _ i _ _ => zs.length - (intOf i).toNat)
  case atStart => exact ⟨0, [], xs, A0, c0, [], by omega, rfl, by simp [crcOn, nb_zero], rfl, by simp, rfl, hc0, hm0, HR0.out, SlL.nil _, OwnV.nil _ _ _, FB.refl _⟩
  case round =>
    obtain ⟨k, ls, ys, A, c, vs, hk, rfl, rfl, rfl, HP⟩ := hrel
    by_cases hlt : k < zs.length
    · have hys : ys.length ≤ 3000 := by have := congrArg List.length HP.out.flat; simp at this; omega
      obtain ⟨b1, o1, rfl, hb1, hcell⟩ := HR1.out.form (by simp; omega)
      have hz1 : wr.cell? ⟨b1, o1 + k, none⟩ = some (.int .i64 zs[k]) := (HF0.out.trans HP.out.fb).cell (by have := hcell k (by simpa using hlt); simpa using this)
      clear hcell
      obtain ⟨m, hm, hmy⟩ := pick_nat zs[k] ys.length (by omega)
      have HM := Lib.hid hm
      clear hm
      generalize zs[k] = z at *
      have hys2 : (ys.length : Int) + 1 ≤ 9223372036854775807 := by omega
      go_wp2_with fail
      refine (Pick_nat z ys.length m _ (by omega) HM.out).mono ?_
      rintro e w' ⟨rfl, rfl⟩
      go_wp2_with fail
      obtain ⟨W0, rfl⟩ : ∃ W0 : World, W0 = wr := ⟨_, rfl⟩
      have hcut := cut_hi A c ys m hmy HP.out.yc
      have HIZ := Lib.hid (tab_size HT.out)
      have HRY := Lib.hid ((HF0.out.trans HP.out.fb).rd (Rd.take HP.out.rd m))
      refine region_sch (E := FB) ((0, true) :: (1, true) :: (2, true) :: (3, true) :: (4, true) :: (5, false) :: (6, true) :: []) (by kernel_rfl) FB.refl fb_trans (fun _ _ d _ _ h => by cases d <;> exact h) (by kernel_rfl) ?_
      intro ops hops0
      have hops := Lib.hid hops0
      clear hops0
      have HF : FB W0 W0.drew := (FB.refl _).drew
      generalize W0.drew = wF at *
      repeat (first
        | (refine sch_loadA (o := ?_) (a' := ?_) (at_of hops.out ?_) ?_ 31 (.tmp 5) ?_ w2.heap.size ?_ _ T (0, 0) _ (fun W hW => (((HP.out.fb.trans HF).trans hW).block _ (Array.getElem?_eq_some_iff.1 HGT.out).1).trans HGT.out) Try.underlying31 rfl HIZ.out ?_ ?_; rotate_left 2; (focus (simp only [List.getElem?_toArray, List.getElem?_cons_zero, List.getElem?_cons_succ]; rfl)); (focus (rw [hops.out]; rfl)); (focus rfl); (focus rfl); (focus (simp only [Act.put, List.setIfInBounds_toArray, List.set_cons_zero, List.set_cons_succ]; rfl)))
        | (refine sch_take (o := ?_) (v := ?_) (a' := ?_) (at_of hops.out ?_) ?_ (fun W hW => ?_) ?_ ?_; rotate_left 3; (focus (simp only [List.getElem?_toArray, List.getElem?_cons_zero, List.getElem?_cons_succ]; rfl)); (focus (rw [hops.out]; rfl)); (focus (have q := hcut W; go_simp; with_reducible rfl)); (focus (simp only [Act.put, List.setIfInBounds_toArray, List.set_cons_zero, List.set_cons_succ]; rfl)))
        | (refine sch_call (o := ?_) (f := ?_) (args := ?_) (at_of hops.out ?_) ?_ ?_ ?_; rotate_left 3; (focus (simp only [List.getElem?_toArray, List.getElem?_cons_zero, List.getElem?_cons_succ]; rfl)); (focus (rw [hops.out]; rfl)); (focus (go_simp; constructor <;> with_reducible rfl)); (first | ((with_reducible refine (crc_OnC T _ (ys.take m) A m c _ (by rw [List.length_take]; omega) (by rw [List.length_take]; have := HP.out.yc; omega) HP.out.cm (HF.rd HRY.out) HT.out).mono ?_); rintro e w' ⟨rfl, hb⟩; refine ⟨_, rfl, hb, ?_⟩; intro a' ha'; simp only [Act.put, List.setIfInBounds_toArray, List.set_cons_zero, List.set_cons_succ] at ha'; subst ha'; replace HF := HF.call hb; clear hb))))
      refine sch_done ?_
      clear hops HRY
      have HF1 := Lib.hid HF
      clear HF
      obtain ⟨A', hlo, hRd, _⟩ := cut_lo A c ys m hmy HP.out.yc
      have HRD := Lib.hid (hRd w HP.out.rd)
      clear hRd
      have hvl : vs.length ≤ 20 := by rw [HP.out.sl.1, HP.out.len]; omega
      go_wp2_with (at_builtin; refine wpList_append_any rfl _ _ 37 22 24 (.slice none 0 0) Try.underlying37 info_bytes rfl rfl wt.heap.size u8 vs ((HF1.out.ownV HP.out.own).alloc _) rfl _ _ _ [.slice A m c] rfl rfl (RdV.lit _ [.slice A m c] _) (by simp [Value.oneCell']) (by simp [maxLen]; omega) (by simp; omega) (Nat.le_trans (HP.out.fb.trans HF1.out).le (by simp)) ?_; intro v' w4 ho hg _; have HO := Lib.hid ho; have HG := Lib.hid hg; clear ho hg)
      go_roundw
      case rel =>
        refine ⟨k + 1, ls ++ [ys.take m], ys.drop m, A', c - m, vs ++ [.slice A m c], by omega, by go_num, ?_, ?_, ?_, ?_, ?_, ?_, HRD.out, ?_, HO.out, ?_⟩
        · rw [crcOn_append]; simp
        · simp
        · have := HP.out.flat
          simp only [List.flatten_append, List.flatten_cons, List.flatten_nil, List.append_nil, List.append_assoc, List.take_append_drop]; exact this
        · simp [HP.out.len]
        · have := HP.out.yc; rw [List.length_drop]; omega
        · have := HP.out.cm; omega
        · exact HP.out.sl.snoc (by rw [List.length_take]; omega) (by have := HP.out.yc; rw [List.length_take]; omega) HP.out.cm (HP.out.rd.take m)
        · exact ((HP.out.fb.trans HF1.out).alloc _).grown HG.out (fun k hk => (HP.out.own.base k hk).1)
      case measure => simp [intOf]; omega
    · have hvl : vs.length ≤ 20 := by rw [HP.out.sl.1, HP.out.len]; omega
      have HRY := Lib.hid ((HF0.out.trans HP.out.fb).rd HP.out.rd)
      have HIZ := Lib.hid (tab_size HT.out)
      have HW := Lib.hid ((HP.out.fb.block _ (Array.getElem?_eq_some_iff.1 HGT.out).1).trans HGT.out)
      have hyc := HP.out.yc
      have hcm := HP.out.cm
      go_wp2_with (first | (refine wpList_load_row rfl _ _ rfl w2.heap.size rfl _ T (0, 0) _ HW.out Try.underlying31 rfl HIZ.out ?_) | (go_at_call 12; refine (crc_OnC T _ ys A _ c _ rfl hyc hcm HRY.out HT.out).mono ?_; rintro e w' ⟨rfl, hb⟩; have HB := Lib.hid hb; clear hb) | (at_builtin; refine wpList_append_any rfl _ _ 37 22 24 (.slice none 0 0) Try.underlying37 info_bytes rfl rfl wt.heap.size u8 vs ((OwnV.below HP.out.own HB.out).alloc _) rfl _ _ _ [.slice A ys.length c] rfl rfl (RdV.lit _ [.slice A ys.length c] _) (by simp [Value.oneCell']) (by simp [maxLen]; omega) (by simp; omega) (Nat.le_trans (HP.out.fb.call HB.out).le (by simp)) ?_; intro v' w4 ho hg _; have HO := Lib.hid ho; have HG := Lib.hid hg; clear ho hg))
      have HF4 := Lib.hid ((((HF0.out.trans HP.out.fb).call HB.out).alloc (.cells #[.slice A ys.length c] 22)).grown HG.out (fun k hk => Nat.le_trans HF0.out.le (HP.out.own.base k hk).1))
      have HT4 := Lib.hid (((HP.out.fb.call HB.out).alloc (.cells #[.slice A ys.length c] 22)).grown HG.out (fun k hk => (HP.out.own.base k hk).1))
      have HSL := Lib.hid (HP.out.sl.snoc (A := A) (n := ys.length) (c := c) rfl hyc hcm HP.out.rd)
      obtain ⟨Ap, cp, hp, hpc, hpm, hprd, _⟩ := OwnV.form HO.out
      subst hp
      have HPR := Lib.hid hprd
      have HPC := Lib.hid hpc
      have HPM := Lib.hid hpm
      have hfl := HP.out.flat
      have hsum : crcOn crcT (crcOn crcT 0#32 ls.flatten) ys = crcSum xs := by rw [crcOn_append, hfl]; rfl
      have hons : crcOns crcT (ls ++ [ys]) = crcSum xs := by unfold crcOns; rw [crcOns_flatten]; simp only [List.flatten_append, List.flatten_cons, List.flatten_nil, List.append_nil]; rw [hfl]; rfl
      have hlen : vs.length + 1 = (ls ++ [ys]).length := by have := HSL.out.1; simpa using this
      have HSUM := Lib.hid hsum
      have HONS := Lib.hid hons
      have HLEN := Lib.hid hlen
      clear hpc hpm hprd hfl hsum hons hlen HO HG HB HRY HW hyc hcm HP
      go_loopw [7, 12] (fun st i wr => ∃ n : Nat, n ≤ xs.length ∧ i = .int .i64 n ∧ st = .int .u32 (nb ((xs.take n).foldl (crcStep crcT) (~~~ 0#32))) ∧ Hid (FB w4 wr)) (fun _ i _ => xs.length - (intOf i).toNat)
      case atStart => exact ⟨0, by omega, rfl, by simp [show nb 4294967295#32 = 4294967295 from by decide], FB.refl _⟩
      case round =>
        obtain ⟨n, hn, rfl, rfl, HF5⟩ := hrel
        by_cases hlt2 : n < xs.length
        · obtain ⟨b0, o0, rfl, hb0, hcell⟩ := HR0.out.form (by omega)
          have HCK := Lib.hid (hcell n hlt2)
          clear hcell
          have HS := Lib.hid (show List.foldl (crcStep crcT) (~~~ 0#32) (List.take (n + 1) xs) = crcStep crcT (List.foldl (crcStep crcT) (~~~ 0#32) (List.take n xs)) xs[n] from by
            rw [List.take_succ_eq_append_getElem hlt2, List.foldl_append]; rfl)
          generalize List.foldl (crcStep crcT) (~~~ 0#32) (List.take n xs) = st at *
          generalize xs[n] = x at *
          go_wp2_with fail
          obtain ⟨W0, rfl⟩ : ∃ W0 : World, W0 = wr := ⟨_, rfl⟩
          refine region_sch (E := FB) ((0, true) :: (1, true) :: (2, true) :: (3, true) :: (4, true) :: (5, true) :: (6, false) :: (7, true) :: []) (by kernel_rfl) FB.refl fb_trans (fun _ _ d _ _ h => by cases d <;> exact h) (by kernel_rfl) ?_
          intro ops hops0
          have hops := Lib.hid hops0
          clear hops0
          have HF : FB W0 W0.drew := (FB.refl _).drew
          generalize W0.drew = wF at *
          repeat (first
            | (refine sch_loadA (o := ?_) (a' := ?_) (at_of hops.out ?_) ?_ 31 (.tmp 5) ?_ w2.heap.size ?_ _ T (0, 0) _ (fun W hW => ((((HT4.out.trans HF5.out).trans HF).trans hW).block _ (Array.getElem?_eq_some_iff.1 HGT.out).1).trans HGT.out) Try.underlying31 rfl HIZ.out ?_ ?_; rotate_left 2; (focus (simp only [List.getElem?_toArray, List.getElem?_cons_zero, List.getElem?_cons_succ]; rfl)); (focus (rw [hops.out]; rfl)); (focus rfl); (focus rfl); (focus (simp only [Act.put, List.setIfInBounds_toArray, List.set_cons_zero, List.set_cons_succ]; rfl)))
            | (refine sch_take (o := ?_) (v := ?_) (a' := ?_) (at_of hops.out ?_) ?_ (fun W hW => ?_) ?_ ?_; rotate_left 3; (focus (simp only [List.getElem?_toArray, List.getElem?_cons_zero, List.getElem?_cons_succ]; rfl)); (focus (rw [hops.out]; rfl)); (focus (have q := (((HF4.out.trans HF5.out).trans HF).trans hW).cell HCK.out; unfold vb at q; go_simp; with_reducible rfl)); (focus (simp only [Act.put, List.setIfInBounds_toArray, List.set_cons_zero, List.set_cons_succ]; rfl)))
            | (refine sch_call (o := ?_) (f := ?_) (args := ?_) (at_of hops.out ?_) ?_ ?_ ?_; rotate_left 3; (focus (simp only [List.getElem?_toArray, List.getElem?_cons_zero, List.getElem?_cons_succ]; rfl)); (focus (rw [hops.out]; rfl)); (focus (go_simp; constructor <;> with_reducible rfl)); (first | ((with_reducible refine (crc_StepC T _ _ _ HT.out).mono ?_); rintro e w' ⟨rfl, hb⟩; refine ⟨_, rfl, hb, ?_⟩; intro a' ha'; simp only [Act.put, List.setIfInBounds_toArray, List.set_cons_zero, List.set_cons_succ] at ha'; subst ha'; replace HF := HF.call hb; clear hb))))
          refine sch_done ?_
          have HF6 := Lib.hid (HF5.out.trans HF)
          clear hops HF
          go_wp2
          go_roundw
          case rel => exact ⟨n + 1, by omega, by go_num, by rw [HS.out], HF6.out⟩
          case measure => simp [intOf]; omega
        · obtain rfl : n = xs.length := by omega
          have hst : ~~~ (List.foldl (crcStep crcT) 4294967295#32 xs) = crcSum xs := by rw [show (4294967295#32 : BitVec 32) = ~~~ 0#32 from by decide]; rfl
          have hh := HSUM.out
          have hp2 := HONS.out
          go_wp2_with fail
          refine (crc_Sum xs A0 c0 _ hc0 hm0 ((HF4.out.trans HF5.out).rd HR0.out)).mono ?_
          rintro e w' ⟨rfl, hb⟩
          have HB := Lib.hid hb
          clear hb
          go_wp2_with fail
          have hpp := crc_Parts (ls ++ [ys]) Ap cp w' (by have := HPC.out; simp at this ⊢; have := HLEN.out; simp at this; omega) HPM.out (HSL.out.rdl (HF5.out.call HB.out |>.rdV HPR.out) ((HF4.out.trans HF5.out).call HB.out))
          rw [← HLEN.out, hp2] at hpp
          refine hpp.mono ?_
          rintro e w'' ⟨rfl, hb⟩
          have HB2 := Lib.hid hb
          clear hb hpp
          go_wp2
          go_ret
          exact ⟨rfl, ((HF4.out.trans HF5.out).call HB.out).call HB2.out⟩

theorem crcParts_walk (A0 : Option Addr) (c0 : Nat) (xs : List Byte) (A1 : Option Addr) (c1 : Nat) (zs : List Int) (w : World) (hc0 : xs.length ≤ c0) (hm0 : c0 ≤ maxLen) (hr0 : Rd w A0 xs)
    (hc1 : zs.length ≤ c1) (hm1 : c1 ≤ maxLen) (hr1 : RdV w A1 (zs.map (Value.int .i64))) (_hw1 : ∀ z ∈ zs, -9223372036854775808 ≤ z ∧ z ≤ 9223372036854775807) :
    Calls Try.prog 6 #[.slice A0 xs.length c0, .slice A1 zs.length c1] w fun e w' => e = .returned (.bool true) ∧ Below w.heap.size w w' := by
  have e := maxLen_eq
  by_cases h3 : xs.length ≤ 3000
  · by_cases h20 : zs.length ≤ 20
    · exact crcParts_few A0 c0 xs A1 c1 zs w h3 h20 hc0 hm0 hr0 hc1 hr1
    · exact crcParts_much A0 c0 xs A1 c1 zs w (.inr ⟨h3, by omega⟩) (by omega) (by omega)
  · exact crcParts_much A0 c0 xs A1 c1 zs w (.inl (by omega)) (by omega) (by omega)
end Go.Proofs.Ytoacmcfildmijaa
