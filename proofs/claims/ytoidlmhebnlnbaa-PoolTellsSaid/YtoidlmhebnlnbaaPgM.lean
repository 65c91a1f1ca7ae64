/- page over a disk: the walks through Pages, right, Load, Save. -/
import Derived.Test.YtoidlmhebnlnbaaDskI
import Derived.Defers
set_option linter.unusedVariables false
set_option linter.unusedSimpArgs false
namespace Go.Proofs.Ytoidlmhebnlnbaa
open Go.ChangeShapes Go.WideShapes Go.ChangeAt Go.RowKit Go.MapKept

theorem TS.grown {w w' : World} {row : Option Nat} (h : w.grownBy w' row) : TS row.toList w w' :=
  ⟨h.os, h.tape, h.output, h.size, fun k hk hm => h.block k hk (fun e => hm (by rw [← e]; simp))⟩
theorem div8 (n : Nat) : ((n : Int)).tdiv 8 = ((n / 8 : Nat) : Int) := by rw [Int.tdiv_eq_ediv_of_nonneg (by omega)]; omega
set_option maxRecDepth 100000 in
set_option maxHeartbeats 400000 in
theorem pg_Pages {w : World} {F : List Nat} {g n : Nat} {D : DiskSt} (h : Dsk w F g n D) :
    Calls Try.prog 26 #[.pointer (some ⟨g, 0, none⟩)] w fun e w' => e = .returned (.int .i64 ((n / 8 : Nat) : Int)) ∧ w = w' := by
  have H := Lib.hid h
  have hd := div8 n
  have hn := h.ok.n2
  have hwr : IntKind.i64.wrap (((n / 8 : Nat) : Int)) = ((n / 8 : Nat) : Int) := by rw [IntKind.wrap_i64]; omega
  clear h
  generalize hm : n / 8 = m at *
  clear hm
  go_enter Try.func26, Try.ntmps26
  go_wp2_with fail
  refine (dsk_Sectors H.out).mono ?_
  rintro e w1 ⟨rfl, rfl⟩
  go_wp2
  go_ret
  first | exact ⟨rfl, rfl⟩ | exact ⟨by simp [hd], rfl⟩
def pgOut (n : Nat) (k : Int) : Prop := k < 0 ∨ ((n / 8 : Nat) : Int) ≤ k
instance (n : Nat) (k : Int) : Decidable (pgOut n k) := inferInstanceAs (Decidable (_ ∨ _))
set_option maxRecDepth 100000 in
set_option maxHeartbeats 400000 in
theorem pg_right {w : World} {F : List Nat} {g n : Nat} {D : DiskSt} (h : Dsk w F g n D) (k : Int) :
    Calls Try.prog 42 #[.pointer (some ⟨g, 0, none⟩), .int .i64 k] w fun e w' => e = .returned (.int .i64 (if pgOut n k then 2 else 0)) ∧ w = w' := by
  have H := Lib.hid h
  have hn := h.ok.n1
  have hn0 : ((n : Int) == 0) = false := by simp; omega
  clear h
  by_cases hneg : k < 0
  · rw [if_pos (.inl hneg)]
    go_enter Try.func42, Try.ntmps42
    go_wp2_with fail
    refine (dsk_Sectors H.out).mono ?_
    rintro e w1 ⟨rfl, rfl⟩
    go_wp2
    go_ret
    exact ⟨rfl, rfl⟩
  · by_cases hbig : ((n / 8 : Nat) : Int) ≤ k
    · rw [if_pos (.inr hbig)]
      have HB := Lib.hid hbig
      clear hbig
      go_enter Try.func42, Try.ntmps42
      go_wp2_with fail
      refine (dsk_Sectors H.out).mono ?_
      rintro e w1 ⟨rfl, rfl⟩
      go_wp2_with fail
      refine (pg_Pages H.out).mono ?_
      rintro e w1 ⟨rfl, rfl⟩
      have hbig := HB.out
      generalize ((n / 8 : Nat) : Int) = m at *
      go_wp2
      go_ret
      exact ⟨rfl, rfl⟩
    · rw [if_neg (by unfold pgOut; omega)]
      have HB := Lib.hid hbig
      clear hbig
      go_enter Try.func42, Try.ntmps42
      go_wp2_with fail
      refine (dsk_Sectors H.out).mono ?_
      rintro e w1 ⟨rfl, rfl⟩
      go_wp2_with fail
      refine (pg_Pages H.out).mono ?_
      rintro e w1 ⟨rfl, rfl⟩
      have hbig := HB.out
      generalize ((n / 8 : Nat) : Int) = m at *
      go_wp2
      go_ret
      exact ⟨rfl, rfl⟩
/-- The sectors of a page, one by one. -/
def ldF (n : Nat) (k : Int) : Nat → Nat → List Byte → DiskSt → List Byte × Int × DiskSt
  | 0, _, out, D => (out, 0, D)
  | r + 1, i, out, D => if (sdRead D n (k * 8 + i)).2.1 = 0 then ldF n k r (i + 1) (out ++ (sdRead D n (k * 8 + i)).1) (sdRead D n (k * 8 + i)).2.2 else ([], (sdRead D n (k * 8 + i)).2.1, (sdRead D n (k * 8 + i)).2.2)
def sdLoad (D : DiskSt) (n : Nat) (k : Int) : List Byte × Int × DiskSt := if pgOut n k then ([], 2, D) else ldF n k 8 0 [] D
theorem sec_le (b : List Byte) (k : Nat) : (sec b k).length ≤ 512 := by unfold sec; rw [List.length_take]; omega
theorem cget_len {M : List (Int × List Byte)} {m : Nat} (hM : ∀ p ∈ M, p.2.length ≤ m) {k : Int} {x : List Byte} (h : cget M k = some x) : x.length ≤ m := by
  induction M with
  | nil => cases h
  | cons p M ih =>
    obtain ⟨k', v⟩ := p
    rw [cget] at h
    split at h
    · cases h; exact hM (k', x) (by simp)
    · exact ih (fun p hp => hM p (by simp [hp])) h
theorem sdRead_le {D : DiskSt} {n : Nat} (h : D.ok n) (k : Int) : (sdRead D n k).1.length ≤ 512 := by
  unfold sdRead
  split
  · simp
  · split
    · simp
    · simp only
      cases hc : cget D.M k with
      | none => exact sec_le _ _
      | some x => exact cget_len (fun p hp => by have := h.M p hp; omega) hc
set_option maxRecDepth 100000 in
set_option maxHeartbeats 2000000 in
theorem pg_Load {w : World} {F : List Nat} {g n : Nat} {D : DiskSt} (h : Dsk w F g n D) (k : Int) :
    Calls Try.prog 38 #[.pointer (some ⟨g, 0, none⟩), .int .i64 k] w fun e w' => ∃ A c, e = .returned (.tuple #[.slice A (sdLoad D n k).1.length c, .int .i64 (sdLoad D n k).2.1]) ∧ Rd w' A (sdLoad D n k).1 ∧ (∀ ad, A = some ad → w.heap.size ≤ ad.block) ∧ Dsk w' F g n (sdLoad D n k).2.2 ∧ TS F w w' ∧ (sdLoad D n k).1.length ≤ c ∧ c ≤ maxLen := by
  have H := Lib.hid h
  have HR := Lib.hid (pg_right h k)
  have HF := Lib.hid h.lt
  have HN := Lib.hid h.ok.n2
  obtain ⟨R, hR⟩ : ∃ R, R = sdLoad D n k := ⟨_, rfl⟩
  rw [← hR]
  unfold sdLoad at hR
  clear h
  by_cases ho : pgOut n k
  · rw [if_pos ho] at hR
    rw [if_pos ho] at HR
    subst hR
    clear ho
    go_enter Try.func38, Try.ntmps38
    go_wp2_with fail
    refine HR.out.mono ?_
    rintro e w1 ⟨rfl, rfl⟩
    go_wp2
    go_ret2
    exact ⟨none, 0, rfl, Rd.nil _ _, fun ad ha => (by cases ha), H.out, TS.refl _ _, by simp, by simp [maxLen]⟩
  · rw [if_neg ho] at hR
    rw [if_neg ho] at HR
    have HK := Lib.hid (show 0 ≤ k ∧ k < ((n / 8 : Nat) : Int) from by unfold pgOut at ho; omega)
    have HRR := Lib.hid hR
    clear ho hR
    go_enter Try.func38, Try.ntmps38
    go_wp2_with fail
    refine HR.out.mono ?_
    rintro e w1 ⟨rfl, rfl⟩
    go_wp2_with fail
    go_loopw [7, 17] (fun v i wr => ∃ (j : Nat) (out : List Byte) (D' : DiskSt), j ≤ 8 ∧ i = .int .i64 j ∧ Hid (out.length ≤ 512 * j) ∧ Hid (Own wr w.heap.size v out) ∧ Hid (Dsk wr F g n D') ∧ Hid (TS F w wr) ∧ Hid (R = ldF n k (8 - j) j out D')) (fun _ i _ => 8 - (intOf i).toNat)
    case atStart => exact ⟨0, [], D, by omega, rfl, Lib.hid (by simp), Lib.hid (Own.nil _ _), H, Lib.hid (TS.refl _ _), HRR⟩
    case round =>
      obtain ⟨j, out, D', hj, rfl, HOL, HO, HD, HT, HRJ⟩ := hrel
      by_cases hlt : j < 8
      · have hz : (j : Int) < 8 := by omega
        have hw1 : IntKind.i64.wrap (k * 8) = k * 8 := by rw [IntKind.wrap_i64]; have := HK.out; have := HN.out; omega
        have hw2 : IntKind.i64.wrap (k * 8 + (j : Int)) = k * 8 + (j : Int) := by rw [IntKind.wrap_i64]; have := HK.out; have := HN.out; omega
        have hw3 : IntKind.i64.wrap ((j : Int) + 1) = (j : Int) + 1 := by rw [IntKind.wrap_i64]; omega
        have HJ := Lib.hid hlt
        have hrj := HRJ.out
        rw [show 8 - j = (7 - j) + 1 from by omega, ldF] at hrj
        have HRJ2 := Lib.hid hrj
        have HRL := Lib.hid (sdRead_le HD.out.ok (k * 8 + (j : Int)))
        have HC := Lib.hid (dsk_Read HD.out (k * 8 + (j : Int)))
        generalize sdRead D' n (k * 8 + (j : Int)) = t at *
        obtain ⟨b, er, D2⟩ := t
        have HRL := Lib.hid (show b.length ≤ 512 from HRL.out)
        clear hlt hj hrj HRJ
        go_wp2_with fail
        refine HC.out.mono ?_
        rintro e w2 ⟨A9, c9, rfl, hr, hnew, hd, ht, hc9, hm9⟩
        try simp only at hr hd hc9
        have HR9 := Lib.hid hr
        have HD2 := Lib.hid hd
        have HT2 := Lib.hid (HT.out.then ht)
        have HOF := Lib.hid (OwnV.base HO.out)
        have HO2 := Lib.hid (ht.ownV HO.out (fun kk hk hm => by have h1 := (HOF.out kk hk).1; have := HF.out kk hm; omega))
        clear hr hnew hd ht hc9 hm9 HC HO HD HT
        by_cases he : er = 0
        · subst he
          have hrj := HRJ2.out
          rw [if_pos rfl] at hrj
          have HRJ3 := Lib.hid hrj
          clear hrj HRJ2
          go_wp2_with (at_builtin; refine wpList_append_bytes rfl _ _ rfl w.heap.size _ out HO2.out rfl A9 c9 b rfl HR9.out (by have := HRL.out; have := HOL.out; have := HJ.out; omega) HT2.out.size ?_; intro v' w3 ho hg hob; have HO3 := Lib.hid ho; have HG := Lib.hid hg; clear ho hg hob)
          have HD3 := Lib.hid (HD2.out.ts (TS.grown HG.out) (fun x hx hm => by have h1 := (HOF.out x (by simpa using hx)).1; have := HF.out x hm; omega))
          have HT3 := Lib.hid (HT2.out.trans (TS.grown HG.out) (fun x hx => .inr (HOF.out x (by simpa using hx)).1))
          go_roundw
          case rel => exact ⟨j + 1, out ++ b, D2, by have := HJ.out; omega, by go_num, Lib.hid (by rw [List.length_append]; have := HRL.out; have := HOL.out; omega), HO3, HD3, HT3, Lib.hid (by rw [show 8 - (j + 1) = 7 - j by omega]; exact HRJ3.out)⟩
          case measure => (show 8 - ((j : Int) + 1).toNat < 8 - ((j : Int)).toNat; have := HJ.out; omega)
        · have heb : (er != 0) = true := by simpa using he
          have hrj := HRJ2.out
          rw [if_neg he] at hrj
          have HRJ3 := Lib.hid hrj
          clear hrj HRJ2 he
          go_wp2
          go_ret2
          rw [HRJ3.out]
          exact ⟨none, 0, rfl, Rd.nil _ _, fun ad ha => (by cases ha), HD2.out, HT2.out, by simp, by simp [maxLen]⟩
      · obtain rfl : j = 8 := by omega
        have hq := HRJ.out
        rw [ldF] at hq
        have HQ := Lib.hid hq
        obtain ⟨A7, c7, rfl, h1, h2, h3, h4⟩ := Own.form HO.out
        have HE := Lib.hid (And.intro (And.intro h1 h2) (And.intro h3 h4))
        clear hq HRJ HO h1 h2 h3 h4
        go_wp2
        go_ret2
        rw [HQ.out]
        exact ⟨A7, c7, rfl, HE.out.2.1, fun ad ha => (HE.out.2.2 ad ha).1, HD.out, HT.out, HE.out.1.1, HE.out.1.2⟩
end Go.Proofs.Ytoidlmhebnlnbaa
