/- Walks and laws that the claim's last text stands on, several texts in one file: NdP, ChainNeedsW. Under the hypotheses that each theorem states. -/
import Derived.Test.YtoidlmhebnlnbaaDoorMCha
import Derived.Test.YtoidlmhebnlnbaaDoorMChb
import Derived.Test.YtoidlmhebnlnbaaDoorMChc
import Derived.Test.YtoidlmhebnlnbaaDoorMChd
import Derived.Test.YtoidlmhebnlnbaaDoorMChe
import Derived.Test.YtoidlmhebnlnbaaDoorMChf
import Derived.Test.YtoidlmhebnlnbaaDoorMChg
import Derived.Test.YtoidlmhebnlnbaaDoorMChh
import Derived.Test.YtoidlmhebnlnbaaDoorMChi
import Derived.Test.YtoidlmhebnlnbaaDoorMChj
import Derived.Test.YtoidlmhebnlnbaaDoorMChk
import Derived.Test.YtoidlmhebnlnbaaDoorMChl
import Derived.Test.YtoidlmhebnlnbaaDoorMChm
import Derived.Test.YtoidlmhebnlnbaaDoorMChn
import Derived.Test.YtoidlmhebnlnbaaDoorMCho
import Derived.Test.YtoidlmhebnlnbaaDoorMChp
import Derived.Test.YtoidlmhebnlnbaaDoorMChq
import Derived.Test.YtoidlmhebnlnbaaDoorMChr
import Derived.Test.YtoidlmhebnlnbaaDoorMChs
import Derived.Test.YtoidlmhebnlnbaaDoorMCht
/- ChainNeeds, plain: as many pages as are needed; which page a changed byte lies on. -/
set_option linter.unusedVariables false
set_option linter.unusedSimpArgs false
namespace Go.Proofs.YtoidlmhebnlnbaaDoor
open Go.ChangeShapes Go.WideShapes Go.ChangeAt Go.RowKit

/-- Every third page from 2 on. -/
def ndP (N : Nat) : List Int := (List.range N).map fun i => ((2 + 3 * i : Nat) : Int)
theorem ndP_len (N : Nat) : (ndP N).length = N := by simp [ndP]
theorem ndP_succ (N : Nat) : ndP (N + 1) = ndP N ++ [((2 + 3 * N : Nat) : Int)] := by simp [ndP, List.range_succ]
theorem ndP_ok {k : Int} {b : List Byte} (hk : chIs k = true) (hb : b.length ≤ 20000) : chOk k (ndP (chN b)) b := by
  refine ⟨hk, ndP_len _, fun i hi => ?_⟩
  rw [ndP_len] at hi
  have hn : chN b ≤ 5 := by unfold chN; omega
  have e : (ndP (chN b)).getD i 0 = ((2 + 3 * i : Nat) : Int) := by
    rw [List.getD_eq_getElem?_getD]
    simp [ndP, List.getElem?_range hi]
  rw [e]
  refine ⟨by omega, by omega, fun hm => ?_⟩
  obtain ⟨j, hj, e2⟩ := List.mem_take_iff_getElem.1 hm
  rw [ndP_len] at hj
  simp only [ndP, List.getElem_map, List.getElem_range] at e2
  omega
/-- The kinds. -/
def ndK (i : Nat) : Int := match i with | 0 => 2 | 1 => 3 | _ => 7
theorem ndK_is (i : Nat) : chIs (ndK i) = true := by
  match i with
  | 0 => rfl
  | 1 => rfl
  | _ + 2 => rfl
theorem chN_set (b : List Byte) (k : Nat) (x : Byte) : chN (b.set k x) = chN b := by unfold chN; rw [List.length_set]
theorem chPart_set (b : List Byte) (k : Nat) (x : Byte) (i : Nat) (h : i ≠ k / 4074) : chPart (b.set k x) i = chPart b i := by
  unfold chPart
  apply List.ext_getElem?
  intro j
  rw [List.getElem?_take, List.getElem?_take]
  split
  · rw [List.getElem?_drop, List.getElem?_drop, List.getElem?_set, if_neg]
    intro e
    apply h
    omega
  · rfl
theorem chPart_set_ne (b : List Byte) (k : Nat) (x : Byte) (hk : k < b.length) (hx : x ≠ b[k]) : chPart (b.set k x) (k / 4074) ≠ chPart b (k / 4074) := by
  intro h
  have := congrArg (fun l => l[k % 4074]?) h
  simp only [chPart, List.getElem?_take] at this
  rw [if_pos (by omega), if_pos (by omega), List.getElem?_drop, List.getElem?_drop, show 4074 * (k / 4074) + k % 4074 = k by omega, List.getElem?_set_self hk, List.getElem?_eq_getElem hk] at this
  exact hx (Option.some.inj this)
theorem chBody_set (ps : List Int) (b : List Byte) (k : Nat) (x : Byte) (i : Nat) (h : i ≠ k / 4074) : chBody ps (b.set k x) i = chBody ps b i := by unfold chBody; rw [chPart_set b k x i h]
theorem chPage_set (kind : Int) (ps : List Int) (b : List Byte) (k : Nat) (x : Byte) (i : Nat) (h : i ≠ k / 4074) : chPage kind ps (b.set k x) i = chPage kind ps b i := by unfold chPage; rw [chBody_set ps b k x i h]
theorem chPage_set_ne {kind : Int} (hk0 : chIs kind = true) (ps : List Int) (b : List Byte) (k : Nat) (x : Byte) (hk : k < b.length) (hx : x ≠ b[k]) : chPage kind ps (b.set k x) (k / 4074) ≠ chPage kind ps b (k / 4074) := by
  intro h
  have hkd := chIs_ok hk0
  have ok : ∀ c : List Byte, pgOk kind (chBody ps c (k / 4074)) = true := fun c => pgOk_iff.2 ⟨hkd.1, hkd.2, by rw [chBody_len]; have := chPart_le c (k / 4074); omega⟩
  have r1 := pgR_bytes (n := BitVec.ofNat 32 (k / 4074)) (ok (b.set k x))
  have r2 := pgR_bytes (n := BitVec.ofNat 32 (k / 4074)) (ok b)
  unfold chPage at h
  rw [h] at r1
  rw [r1] at r2
  simp only [Prod.mk.injEq, true_and, and_true] at r2
  have l1 : (chPart (b.set k x) (k / 4074)).length = (chPart b (k / 4074)).length := by unfold chPart; rw [List.length_take, List.length_drop, List.length_take, List.length_drop, List.length_set]
  have e : ∀ c : List Byte, (pgPad (chBody ps c (k / 4074))).drop 6 = chPart c (k / 4074) ++ List.replicate (4080 - (chBody ps c (k / 4074)).length) 0#8 := fun c => by
    unfold pgPad
    rw [show chBody ps c (k / 4074) = oword 4 (BitVec.ofInt 64 (chNext ps (k / 4074))) ++ oword 2 (BitVec.ofNat 64 (chPart c (k / 4074)).length) ++ chPart c (k / 4074) from rfl]
    generalize (4080 - (oword 4 (BitVec.ofInt 64 (chNext ps (k / 4074))) ++ oword 2 (BitVec.ofNat 64 (chPart c (k / 4074)).length) ++ chPart c (k / 4074)).length) = m
    rw [List.append_assoc (oword 4 _ ++ oword 2 _)]
    exact List.drop_left' (by simp [oword_len])
  have := congrArg (List.drop 6) r2
  rw [e, e] at this
  have h3 := (List.append_inj this l1).1
  exact chPart_set_ne b k x hk hx h3
/-- The numbers of pages. -/
theorem nd_need (L : Nat) (hL : L ≤ 20000) : 1 ≤ chNeed L ∧ (chNeed L - 1) * 4074 < max 1 (L : Int) ∧ (L : Int) ≤ chNeed L * 4074 ∧ (0 < L → chNeed ((L : Int) + 4074) = chNeed L + 1) ∧ chNeed L ≤ 5 := by
  unfold chNeed
  refine ⟨by omega, by omega, by omega, fun h => by omega, by omega⟩
end Go.Proofs.YtoidlmhebnlnbaaDoor
/- The walk through ChainNeeds. -/
set_option linter.unusedVariables false
set_option linter.unusedSimpArgs false
namespace Go.Proofs.YtoidlmhebnlnbaaDoor
open Go.ChangeShapes Go.WideShapes Go.ChangeAt Go.RowKit
attribute [local go_sem] nb_nonneg nb_lt8 nb_lt64 bits_xor8
set_option maxRecDepth 100000

set_option maxHeartbeats 8000000 in
theorem chainNeeds_walk (A : Option Addr) (ca : Nat) (b : List Byte) (kind at_ : Int) (by_ : Byte) (w : World) (hc : b.length ≤ ca) (hm : ca ≤ maxLen) (hr : Rd w A b)
    (hk : -9223372036854775808 ≤ kind ∧ kind ≤ 9223372036854775807) (hat : -9223372036854775808 ≤ at_ ∧ at_ ≤ 9223372036854775807) :
    Calls Tryd.prog 5 #[.slice A b.length ca, .int .i64 kind, .int .i64 at_, .int .u8 (nb by_)] w fun e w' => e = .returned (.bool true) ∧ Below w.heap.size w w' := by
  have HA := Lib.hid (And.intro hc (And.intro hm hr))
  clear hc hm hr hk hat
  go_enter Tryd.func5, Tryd.ntmps5
  go_wp2_with fail
  refine (law9_lives w).mono ?_
  rintro e w1 ⟨rfl, hb⟩
  have HF1 := Lib.hid hb
  clear hb
  by_cases h1 : b.length ≤ 20000
  case neg =>
    have h1b : (20000 : Int) < (b.length : Int) := by omega
    clear h1
    go_wp2
    go_ret
    exact ⟨rfl, HF1.out⟩
  have h1b : ¬ (20000 : Int) < (b.length : Int) := by omega
  have H1 := Lib.hid h1
  clear h1
  go_wp2_with fail
  clear h1b
  have hpr := pick_range kind 3 (by omega)
  obtain ⟨ik, hik⟩ : ∃ ik : Nat, (ik : Int) = pick kind 3 := ⟨(pick kind 3).toNat, by omega⟩
  have hp := kit_Pick kind 3 (w1.alloc (.cells #[.int .i64 2, .int .i64 3, .int .i64 7] 3)) (by omega) (by omega)
  rw [← hik] at hp hpr
  have hik3 : ik < 3 := by omega
  have hi3 : (ik : Int) < 3 := by omega
  refine hp.mono ?_
  rintro e w2 ⟨rfl, rfl⟩
  obtain ⟨pb, po, hAeq, -, hcell⟩ := RdV.form (RdV.lit w1 [.int .i64 2, .int .i64 3, .int .i64 7] 3 rfl) (by simp)
  have hck : (w1.alloc (.cells #[.int .i64 2, .int .i64 3, .int .i64 7] 3)).cell? ⟨pb, po + ik, none⟩ = some (.int .i64 (ndK ik)) := by
    have := hcell ik (by simpa using hik3)
    rw [this]
    match ik, hik3 with
    | 0, _ => rfl
    | 1, _ => rfl
    | 2, _ => rfl
  rw [hAeq]
  have HF2 := Lib.hid (HF1.out.alloc (.cells #[.int .i64 2, .int .i64 3, .int .i64 7] 3))
  have HIS := Lib.hid (ndK_is ik)
  clear hcell hAeq hpr hik hp
  generalize w1.alloc (.cells #[.int .i64 2, .int .i64 3, .int .i64 7] 3) = w2 at *
  generalize ndK ik = kd at *
  go_wp2_with fail
  clear hck hi3 hik3 HF1
  have HND := Lib.hid (show Calls Tryd.prog 13 #[.int .i64 (b.length : Int)] w2 fun e w'' => e = .returned (.int .i64 (chN b : Int)) ∧ w2 = w'' from by rw [← chN_need]; exact ch_Need _ w2 (by have := H1.out; omega))
  have HNE := Lib.hid (nd_need b.length H1.out)
  have HND2 := Lib.hid (fun W => ch_Need ((b.length : Int) + 4074) W (by have := H1.out; omega))
  have HOK := Lib.hid (fun (c : List Byte) (h : c.length = b.length) => show chPages kd (ndP (chN c)) c = ((List.range (chN c)).map (chPage kd (ndP (chN c)) c), 0) from by unfold chPages; rw [if_pos (ndP_ok HIS.out (by rw [h]; exact H1.out))])
  rw [chN_need] at HNE
  obtain ⟨n, hn⟩ : ∃ n, n = chN b := ⟨_, rfl⟩
  have HNN := Lib.hid hn
  rw [← hn] at HND HNE
  clear hn
  refine HND.out.mono ?_
  rintro e w3 ⟨rfl, rfl⟩
  clear HND
  go_upto_region 7 with fail
  go_cut [65] from 34 to 65 (fun s65 wx => s65 = .bool false ∧ wx = w2)
  case first =>
    obtain ⟨e1, e2, e3, e4, e5⟩ := HNE.out
    have hw1 : IntKind.i64.wrap ((n : Int) - 1) = (n : Int) - 1 := by rw [IntKind.wrap_i64]; omega
    have hw2 : IntKind.i64.wrap (((n : Int) - 1) * 4074) = ((n : Int) - 1) * 4074 := by rw [IntKind.wrap_i64]; omega
    have hw3 : IntKind.i64.wrap ((n : Int) * 4074) = (n : Int) * 4074 := by rw [IntKind.wrap_i64]; omega
    have hw4 : IntKind.i64.wrap ((b.length : Int) + 4074) = (b.length : Int) + 4074 := by have := H1.out; rw [IntKind.wrap_i64]; omega
    have hw5 : IntKind.i64.wrap ((n : Int) + 1) = (n : Int) + 1 := by rw [IntKind.wrap_i64]; omega
    have hl1 : ¬ (n : Int) < 1 := by omega
    have hl3 : ¬ (n : Int) * 4074 < (b.length : Int) := by omega
    by_cases h0 : b.length = 0
    · have hg : ¬ (0 : Int) < (b.length : Int) := by omega
      have hne : (chNeed ((b.length : Int) + 4074) != (n : Int) + 1) = true := by rw [bne_iff_ne]; unfold chNeed at *; omega
      have H0 := Lib.hid h0
      clear h0
      go_wp2_with fail
      all_goals
        refine (HND2.out _).mono ?_
        rintro e w4 ⟨rfl, rfl⟩
        go_wp2_with fail
        go_meet
        have h0 := H0.out
        obtain ⟨e1, e2, e3, e4, e5⟩ := HNE.out
        clear HND2 HOK HNE H0
        first
          | exact ⟨rfl, rfl⟩
          | exact ⟨congrArg Value.bool (decide_eq_false (by omega)), rfl⟩
          | exact ⟨congrArg Value.bool (by rw [decide_eq_false (by omega), decide_eq_false (by omega)]; rfl), rfl⟩
          | (exfalso; omega)
    · have hg : (0 : Int) < (b.length : Int) := by omega
      have hne : (chNeed ((b.length : Int) + 4074) != (n : Int) + 1) = false := by rw [bne_eq_false_iff_eq]; exact e4 (by omega)
      have hx : ¬ (b.length : Int) ≤ ((n : Int) - 1) * 4074 := by omega
      have H0 := Lib.hid h0
      clear h0
      go_wp2_with fail
      all_goals
        refine (HND2.out _).mono ?_
        rintro e w4 ⟨rfl, rfl⟩
        go_wp2_with fail
        go_meet
        have h0 := H0.out
        obtain ⟨e1, e2, e3, e4, e5⟩ := HNE.out
        clear HND2 HOK HNE H0
        first
          | exact ⟨rfl, rfl⟩
          | exact ⟨congrArg Value.bool (decide_eq_false (by omega)), rfl⟩
          | exact ⟨congrArg Value.bool (by rw [decide_eq_false (by omega), decide_eq_false (by omega)]; rfl), rfl⟩
          | (exfalso; omega)
  case rest =>
    obtain ⟨rfl, rfl⟩ := hcut
    clear HNE HND2
    have HN5 := Lib.hid (show 1 ≤ n ∧ n ≤ 5 from by rw [HNN.out]; have := H1.out; unfold chN; omega)
    go_wp2_with fail
    generalize wc = w2 at *
    go_loopw [10, 11] (fun s10 s11 wr => ∃ (k : Nat) (v : Value), k ≤ n ∧ s11 = .int .i64 k ∧ v = s10 ∧ Hid (OwnV 3 wr w2.heap.size v ((ndP k).map (.int .i64))) ∧ Hid (FB w2 wr)) (fun _ s11 _ => n - (intOf s11).toNat)
    case atStart => exact ⟨0, _, by omega, rfl, rfl, Lib.hid (OwnV.nil _ _ _), Lib.hid (FB.refl _)⟩
    case round =>
      obtain ⟨k, v, hk, rfl, rfl, HO, HF⟩ := hrel
      by_cases hlt : k < n
      · have hkx : (k : Int) < (n : Int) := by omega
        have hw1 : IntKind.i64.wrap (3 * (k : Int)) = 3 * (k : Int) := by rw [IntKind.wrap_i64]; have := HN5.out; omega
        have hw2 : IntKind.i64.wrap (2 + 3 * (k : Int)) = ((2 + 3 * k : Nat) : Int) := by rw [IntKind.wrap_i64]; have := HN5.out; omega
        have hw5 : IntKind.i64.wrap ((k : Int) + 1) = (k : Int) + 1 := by rw [IntKind.wrap_i64]; have := HN5.out; omega
        have HSC := Lib.hid (ndP_succ k)
        have HLT := Lib.hid hlt
        clear hlt hk
        go_wp2_with (at_builtin; refine wpList_append_any rfl _ _ 26 3 8 (.int .i64 0) Tryd.underlying26 info_int rfl rfl w2.heap.size v _ (HO.out.alloc _) rfl _ _ _ [.int .i64 ((2 + 3 * k : Nat) : Int)] rfl rfl (RdV.lit _ [.int .i64 ((2 + 3 * k : Nat) : Int)] _) (by simp [Value.oneCell']) (by simp [maxLen, ndP_len]; have := HLT.out; have := HN5.out; omega) (by simp [ndP_len]; have := HLT.out; have := HN5.out; omega) (by have := HF.out.le; simp; omega) ?_; intro v' w6 ho hg _; have HO6 := Lib.hid ho; have HG6 := Lib.hid hg; clear ho hg)
        have HF6 := Lib.hid ((HF.out.alloc _).grown HG6.out (fun q hq => (HO.out.base q hq).1))
        go_roundw
        case rel => exact ⟨k + 1, v', by have := HLT.out; omega, by go_num, rfl, by rw [HSC.out, List.map_append]; exact HO6, HF6⟩
        case measure => (show n - ((k : Int) + 1).toNat < n - ((k : Int)).toNat; have := HLT.out; omega)
      · have hkx : ¬ (k : Int) < (n : Int) := by omega
        obtain rfl : k = n := by omega
        obtain ⟨G, cG, rfl, o1, o2, o3, o4⟩ := OwnV.form HO.out
        rw [List.length_map, ndP_len] at o1
        have hlen : ((ndP k).map (Value.int .i64)).length = k := by rw [List.length_map, ndP_len]
        rw [hlen]
        have HFA := Lib.hid (HF2.out.trans HF.out)
        have HRP := Lib.hid o3
        have HCG := Lib.hid (And.intro o1 o2)
        clear o1 o2 o3 o4 hkx hlt hk hlen HO HF HF2
        generalize wr = wa at *
        go_wp2_with fail
        refine (kit_Own b A ca wa HA.out.1 (by have := H1.out; omega) (HFA.out.rd HA.out.2.2)).mono ?_
        rintro e w4 ⟨A4, c4, rfl, ho, hb⟩
        obtain ⟨q1, q2, q3, -, q5⟩ := Own.info ho
        have HF4 := Lib.hid (HFA.out.trans hb)
        have HRP4 := Lib.hid ((show FB wa w4 from hb).rdV HRP.out)
        have hcp := ch_Pages kd (ndP k) b G A4 cG c4 w4 (by rw [ndP_len]; have := HN5.out; omega) (by have := H1.out; omega) q1 q2 HRP4.out q3
        have hok := HOK.out b rfl
        rw [← HNN.out] at hok
        rw [hok, ndP_len] at hcp
        have HCP := Lib.hid hcp
        clear ho hb q1 q2 q3 q5 hcp hok HFA HRP
        go_wp2_with fail
        refine HCP.out.mono ?_
        rintro e w5 ⟨A5, c5, vs, rfl, hv, hro, -, -, -, hb⟩
        simp only at hv hro ⊢
        rw [List.length_map, List.length_range]
        have HF5 := Lib.hid (HF4.out.trans hb)
        have HRP5 := Lib.hid (hb.rdV HRP4.out)
        have HV5 := Lib.hid (And.intro hv hro)
        clear hv hro hb HCP HF4 HRP4
        have hkk : ((k : Int) != (k : Int)) = false := by simp
        go_wp2_with fail
        clear hkk
        go_loopw [14] (fun s14 wr => ∃ i : Nat, i ≤ k ∧ s14 = .int .i64 i ∧ Hid (FB w5 wr)) (fun s14 _ => k - (intOf s14).toNat)
        case atStart => exact ⟨0, by omega, rfl, Lib.hid (FB.refl _)⟩
        case round =>
          obtain ⟨i, hi, rfl, HF⟩ := hrel
          by_cases hlt : i < k
          · have hix : (i : Int) < (k : Int) := by omega
            have hw5 : IntKind.i64.wrap ((i : Int) + 1) = (i : Int) + 1 := by rw [IntKind.wrap_i64]; have := HN5.out; omega
            have HLT := Lib.hid hlt
            obtain ⟨hv, hro⟩ := HV5.out
            have hlr : ((List.range k).map (chPage kd (ndP k) b)).length = k := by simp
            obtain ⟨Ai, ci, hs, hri, hci, hmi, -⟩ := hro.each i (by rw [hlr]; exact hlt)
            have hvl : vs.length = k := by rw [hro.len, hlr]
            have hrow : ((List.range k).map (chPage kd (ndP k) b))[i]'(by rw [hlr]; exact hlt) = chPage kd (ndP k) b i := by simp
            rw [hrow] at hs hri hci
            have hkd := chIs_ok HIS.out
            have hok : pgOk kd (chBody (ndP k) b i) = true := pgOk_iff.2 ⟨hkd.1, hkd.2, by rw [chBody_len]; have := chPart_le b i; omega⟩
            have hrb := pgR_bytes (n := BitVec.ofNat 32 i) hok
            have hbl : (chPage kd (ndP k) b i).length = 4096 := pgBytes_len _ _ (by rw [chBody_len]; have := chPart_le b i; omega)
            have hcr := r5_Read (chPage kd (ndP k) b i) Ai ci wr (by rw [hbl]; omega) hci hmi (HF.out.rd hri)
            rw [show pgR (chPage kd (ndP k) b i) = ((kd, BitVec.ofNat 32 i, pgPad (chBody (ndP k) b i)), 0) from hrb, hbl] at hcr
            obtain ⟨pb, po, hAeq, -, hcell⟩ := RdV.form (HF.out.rdV hv) (by rw [hvl]; omega)
            subst hAeq
            have hpj := hcell i (by rw [hvl]; exact hlt)
            rw [List.getElem?_eq_getElem (by rw [hvl]; exact hlt)] at hs
            rw [Option.some.inj hs, hbl] at hpj
            have HCR := Lib.hid hcr
            clear hcell hs hri hci hmi hrow hbl hrb hok hcr hkd hv hro hvl hlr hlt hi
            go_wp2_with fail
            refine HCR.out.mono ?_
            rintro e w6 ⟨A6, c6, rfl, -, -, -, hb⟩
            have hnb : nb (BitVec.ofNat 32 i) = (i : Int) := nb_ofNat i (by have := HLT.out; have := HN5.out; omega)
            simp only [hnb]
            have hbb := hb.alloc (.cells #[.int .i64 kd, .int .u32 (i : Int), .slice A6 (pgPad (chBody (ndP k) b i)).length c6] 45)
            obtain ⟨p0, p1, p2⟩ := prow3 (heap_alloc_new w6 (.cells #[.int .i64 kd, .int .u32 (i : Int), .slice A6 (pgPad (chBody (ndP k) b i)).length c6] 45))
            have hw32 : IntKind.u32.wrap (i : Int) = (i : Int) := by rw [IntKind.wrap_u32]; have := HLT.out; have := HN5.out; omega
            have HFR := Lib.hid (HF.out.trans hbb)
            have hkb : (kd != kd) = false := by simp
            have hib : ((i : Int) != (i : Int)) = false := by simp
            clear hb hbb HCR HF hpj hnb
            go_wp2_with fail
            go_roundw
            case rel => exact ⟨i + 1, by have := HLT.out; omega, by go_num, HFR⟩
            case measure => (show k - ((i : Int) + 1).toNat < k - ((i : Int)).toNat; have := HLT.out; omega)
          · have hix : ¬ (i : Int) < (k : Int) := by omega
            have HFE := Lib.hid (HF5.out.trans HF.out)
            have HRP6 := Lib.hid (HF.out.rdV HRP5.out)
            have HV6 := Lib.hid (And.intro (HF.out.rdV HV5.out.1) (HV5.out.2.fb HF.out))
            clear hlt hi HF HF5 HRP5 HV5
            generalize wr = wb at *
            by_cases hz : b.length = 0 ∨ by_ = 0#8
            · have HZ := Lib.hid hz
              clear hz
              by_cases hb0 : b.length = 0
              · have hbe : ((b.length : Int) == 0) = true := by simp [hb0]
                clear hb0
                go_wp2_with fail
                go_ret
                exact ⟨rfl, HFE.out⟩
              · have hbe : ((b.length : Int) == 0) = false := by rw [beq_eq_false_iff_ne]; omega
                have hye : (nb by_ == 0) = true := by
                  rcases HZ.out with h | h
                  · exact absurd h hb0
                  · subst h; rfl
                clear hb0
                go_wp2_with fail
                go_ret
                exact ⟨rfl, HFE.out⟩
            have hbe : ((b.length : Int) == 0) = false := by rw [beq_eq_false_iff_ne]; omega
            have hye : (nb by_ == 0) = false := by
              rw [beq_eq_false_iff_ne]
              intro h
              apply hz
              right
              unfold nb at h
              exact BitVec.eq_of_toNat_eq (by simp; omega)
            have HZ := Lib.hid (show 0 < b.length ∧ by_ ≠ 0#8 from ⟨by omega, fun h => hz (.inr h)⟩)
            clear hz
            go_wp2_with fail
            clear hbe hye
            have hpr := pick_range at_ b.length (by have := HZ.out.1; omega)
            obtain ⟨j, hj⟩ : ∃ j : Nat, (j : Int) = pick at_ b.length := ⟨(pick at_ b.length).toNat, by omega⟩
            have hp := kit_Pick at_ b.length wb (by have := HZ.out.1; omega) (by have := H1.out; omega)
            rw [← hj] at hp hpr
            have HJ := Lib.hid (show j < b.length by omega)
            have hji : (j : Int) < (b.length : Int) := by omega
            clear hj hpr
            refine hp.mono ?_
            rintro e w6 ⟨rfl, rfl⟩
            clear hp
            go_wp2_with fail
            refine (kit_Own b A ca wb HA.out.1 (by have := H1.out; omega) (HFE.out.rd HA.out.2.2)).mono ?_
            rintro e w7 ⟨A7, c7, rfl, ho, hb⟩
            have HF7 := Lib.hid (HFE.out.trans hb)
            have HW7 := Lib.hid (show FB wb w7 from hb)
            obtain ⟨g7, rfl, hg1, hg2⟩ := Own.head0 ho HZ.out.1
            obtain ⟨hq, hfz, hst⟩ := Own.cellset0 ho HJ.out
            generalize hy : b[j]'(HJ.out) = y at *
            have HY := Lib.hid hy
            have HO7 := Lib.hid (hst (y ^^^ by_))
            have HW8 := Lib.hid (HW7.out.set (p := ⟨g7, j, none⟩) (by simpa using hg1) (vb (y ^^^ by_)))
            clear hst ho hb hg1 hg2 hy
            unfold vb at *
            go_wp2_with fail
            clear hq hfz HW7
            generalize w7.setCell ⟨g7, j, none⟩ (.int .u8 (nb (y ^^^ by_))) = w8 at *
            obtain ⟨cs, hcs⟩ : ∃ cs, cs = b.set j (y ^^^ by_) := ⟨_, rfl⟩
            have hcl : cs.length = b.length := by rw [hcs, List.length_set]
            have hcn : chN cs = k := by rw [hcs, chN_set, HNN.out]
            rw [← hcs] at HO7
            obtain ⟨q1, q2, q3, -, -⟩ := Own.info HO7.out
            rw [hcl] at q1
            have HF8 := Lib.hid (HFE.out.trans HW8.out)
            have hcp := ch_Pages kd (ndP k) cs G (some ⟨g7, 0, none⟩) cG c7 w8 (by rw [ndP_len]; have := HN5.out; omega) (by rw [hcl]; have := H1.out; omega) (by rw [hcl]; exact q1) q2 (HW8.out.rdV HRP6.out) q3
            have hok := HOK.out cs hcl
            rw [hcn] at hok
            rw [hok, ndP_len, hcl] at hcp
            have HCP := Lib.hid hcp
            have HCS := Lib.hid hcs
            have HV8 := Lib.hid (And.intro (HW8.out.rdV HV6.out.1) (HV6.out.2.fb HW8.out))
            clear q1 q2 q3 hcp hok hcs hcl hcn HO7 HV6 HRP6 HFE HW8 HF7
            refine HCP.out.mono ?_
            rintro e w9 ⟨A9, c9, us, rfl, hv, hro, -, -, -, hb⟩
            simp only at hv hro ⊢
            rw [List.length_map, List.length_range]
            have HF9 := Lib.hid (HF8.out.trans hb)
            have HU9 := Lib.hid (And.intro hv hro)
            have HV9 := Lib.hid (And.intro (hb.rdV HV8.out.1) (HV8.out.2.fb hb))
            clear hv hro hb HCP HF8 HV8
            have hkk : ((k : Int) != (k : Int)) = false := by simp
            go_wp2_with fail
            clear hkk
            go_loopw [20] (fun s20 wr => ∃ i : Nat, i ≤ k ∧ s20 = .int .i64 i ∧ Hid (FB w9 wr)) (fun s20 _ => k - (intOf s20).toNat)
            case atStart => exact ⟨0, by omega, rfl, Lib.hid (FB.refl _)⟩
            case round =>
              obtain ⟨i, hi, rfl, HF⟩ := hrel
              by_cases hlt : i < k
              · have hix : (i : Int) < (k : Int) := by omega
                have hw5 : IntKind.i64.wrap ((i : Int) + 1) = (i : Int) + 1 := by rw [IntKind.wrap_i64]; have := HN5.out; omega
                have HLT := Lib.hid hlt
                obtain ⟨hv, hro⟩ := HV9.out
                obtain ⟨hu, hru⟩ := HU9.out
                have hlr : ∀ cs, ((List.range k).map (chPage kd (ndP k) cs)).length = k := fun cs => by simp
                obtain ⟨Ai, ci, hs1, hr1, -, -, -⟩ := hro.each i (by rw [hlr]; exact hlt)
                obtain ⟨Bi, di, hs2, hr2, -, -, -⟩ := hru.each i (by rw [hlr]; exact hlt)
                have hvl : vs.length = k := by rw [hro.len, hlr]
                have hul : us.length = k := by rw [hru.len, hlr]
                have hrow : ∀ cs, ((List.range k).map (chPage kd (ndP k) cs))[i]'(by rw [hlr]; exact hlt) = chPage kd (ndP k) cs i := fun cs => by simp
                rw [hrow] at hs1 hr1 hs2 hr2
                have hbl : ∀ cs, (chPage kd (ndP k) cs i).length = 4096 := fun cs => pgBytes_len _ _ (by rw [chBody_len]; have := chPart_le cs i; omega)
                rw [hbl] at hs1 hs2
                obtain ⟨pb, po, hAeq, -, hc1⟩ := RdV.form (HF.out.rdV hv) (by rw [hvl]; omega)
                obtain ⟨ub, uo, hUeq, -, hc2⟩ := RdV.form (HF.out.rdV hu) (by rw [hul]; omega)
                subst hAeq hUeq
                have hp1 := hc1 i (by rw [hvl]; exact hlt)
                have hp2 := hc2 i (by rw [hul]; exact hlt)
                rw [List.getElem?_eq_getElem (by rw [hvl]; exact hlt)] at hs1
                rw [List.getElem?_eq_getElem (by rw [hul]; exact hlt)] at hs2
                rw [Option.some.inj hs1] at hp1
                rw [Option.some.inj hs2] at hp2
                have HQ := Lib.hid (fun (W : World) (f : FB wr W) => show W.cell? ⟨pb, po + i, none⟩ = some (.slice Ai 4096 ci) ∧ W.cell? ⟨ub, uo + i, none⟩ = some (.slice Bi 4096 di) ∧
                    (convert 27 9 (.slice Ai 4096 ci)).run Tryd.prog W = .ok (.string (sb (chPage kd (ndP k) b i))) W ∧ (convert 27 9 (.slice Bi 4096 di)).run Tryd.prog W = .ok (.string (sb (chPage kd (ndP k) cs i))) W from by
                  have t1 := run_string ci ((HF.out.trans f).rd hr1)
                  have t2 := run_string di ((HF.out.trans f).rd hr2)
                  rw [hbl] at t1 t2
                  exact ⟨f.cell hp1, f.cell hp2, t1, t2⟩)
                have hse : ((sb (chPage kd (ndP k) b i)).toList == (sb (chPage kd (ndP k) cs i)).toList) = decide (i ≠ j / 4074) := by
                  rw [sb_beq]
                  by_cases hij : i = j / 4074
                  · rw [decide_eq_false (by simpa using hij), beq_eq_false_iff_ne]
                    rw [HCS.out, hij]
                    have hx : y ^^^ by_ ≠ b[j]'(HJ.out) := by
                      rw [HY.out]
                      intro h
                      exact HZ.out.2 (by have := congrArg (y ^^^ ·) h; simpa [← BitVec.xor_assoc] using this)
                    exact fun h => chPage_set_ne HIS.out (ndP k) b j _ HJ.out hx h.symm
                  · rw [decide_eq_true hij, beq_iff_eq, HCS.out, chPage_set _ _ _ _ _ _ hij]
                have hne : ((i : Int) != ((j / 4074 : Nat) : Int)) = decide (i ≠ j / 4074) := by
                  rw [Bool.eq_iff_iff]; simp; omega
                have hq1 : (j : Int).tdiv 4074 = ((j / 4074 : Nat) : Int) := by rw [Int.tdiv_eq_ediv_of_nonneg (by omega)]; omega
                have hq2 : (j : Int) / 4074 = ((j / 4074 : Nat) : Int) := by omega
                have hq3 : IntKind.i64.wrap ((j / 4074 : Nat) : Int) = ((j / 4074 : Nat) : Int) := by rw [IntKind.wrap_i64]; have := HJ.out; have := H1.out; omega
                have HQ3 := Lib.hid (And.intro hq1 (And.intro hq2 hq3))
                clear hc1 hc2 hp1 hp2 hs1 hs2 hr1 hr2 hv hu hro hru hlr hvl hul hrow hbl hlt hi hq1 hq2 hq3
                generalize sb (chPage kd (ndP k) b i) = sp at *
                generalize sb (chPage kd (ndP k) cs i) = sq at *
                generalize j / 4074 = jq at *
                go_wp2_with fail
                have HFL := HF
                clear HF
                generalize wr = W0 at *
                refine region_sch (E := FB) ((0, true) :: (1, true) :: (2, true) :: (3, true) :: (4, true) :: (5, true) :: (6, true) :: (7, true) :: (8, true) :: (9, true) :: (10, true) :: (11, true) :: (12, true) :: (13, true) :: (14, true) :: (15, true) :: []) (by kernel_rfl) FB.refl fb_trans (fun _ _ d _ _ h => by cases d <;> exact h) (by kernel_rfl) ?_
                intro ops hops0
                have hops := Lib.hid hops0
                clear hops0
                have HF : FB W0 W0.drew := (FB.refl _).drew
                generalize W0.drew = wF at *
                repeat (refine sch_take (o := ?_) (v := ?_) (a' := ?_) (at_of hops.out ?_) ?_ (fun W hW => ?_) ?_ ?_; rotate_left 3; (focus (simp only [List.getElem?_toArray, List.getElem?_cons_zero, List.getElem?_cons_succ]; rfl)); (focus (rw [hops.out]; rfl)); (focus (obtain ⟨a1, a2, a3, a4⟩ := HQ.out W (FB.trans HF hW); obtain ⟨a5, a6, a7⟩ := HQ3.out; go_simp; with_reducible rfl)); (focus (simp only [Act.put, List.setIfInBounds_toArray, List.set_cons_zero, List.set_cons_succ]; rfl)))
                refine sch_done ?_
                clear hops HQ HQ3
                have HFN := Lib.hid (HFL.out.trans HF)
                clear HF
                go_wp2_with fail
                go_roundw
                case rel => exact ⟨i + 1, by have := HLT.out; omega, by go_num, HFN⟩
                case measure => (show k - ((i : Int) + 1).toNat < k - ((i : Int)).toNat; have := HLT.out; omega)
              · have hix : ¬ (i : Int) < (k : Int) := by omega
                go_wp2_with fail
                go_ret
                exact ⟨rfl, HF9.out.trans HF.out⟩
end Go.Proofs.YtoidlmhebnlnbaaDoor
