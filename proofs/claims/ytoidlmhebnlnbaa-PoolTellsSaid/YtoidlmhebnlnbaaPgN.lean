/- page over a disk: the walk through Save. -/
import Derived.Test.YtoidlmhebnlnbaaPgM
import Derived.Defers
import Derived.Deep.Cut
import Derived.Deep.CutRange
set_option linter.unusedVariables false
set_option linter.unusedSimpArgs false
namespace Go.Proofs.Ytoidlmhebnlnbaa
open Go.ChangeShapes Go.WideShapes Go.ChangeAt Go.RowKit Go.MapKept

def svF (n : Nat) (k : Int) (xs : List Byte) : Nat → Nat → DiskSt → Int × DiskSt
  | 0, _, D => (0, D)
  | r + 1, i, D => if (sdWrite D n (k * 8 + i) (sec xs i)).1 = 0 then svF n k xs r (i + 1) (sdWrite D n (k * 8 + i) (sec xs i)).2 else sdWrite D n (k * 8 + i) (sec xs i)
def sdSave (D : DiskSt) (n : Nat) (k : Int) (xs : List Byte) : Int × DiskSt := if pgOut n k ∨ xs.length ≠ 4096 then (2, D) else svF n k xs 8 0 D
set_option maxRecDepth 100000 in
theorem pg_SaveD (p q : Addr) (v z : Int) (w : World) (hc : w.cell? p = some (.int .i64 v)) (hq : w.cell? q = some (.int .i64 z)) (hz : w.frozen? q = false) :
    CallsD Try.prog 44 #[.pointer (some p), .pointer (some q)] .returning w fun e u' w' => u' = .returning ∧ (e = .returned (.tuple #[]) ∧ w' = w.setCell q (.int .i64 v)) := by
  go_enter_d Try.func44, Try.ntmps44
  go_wp2
  go_end0
  exact ⟨rfl, rfl⟩
theorem row1 {W : World} {g : Nat} {a : Value} {t : TypeId} {fr : Nat × Nat} (h : W.heap[g]? = some (.cells #[a] t fr)) : W.cell? ⟨g, 0, none⟩ = some a := by rw [cell_of_row _ _ _ _ _ _ h]; rfl
set_option maxRecDepth 100000 in
theorem sv_door {w W : World} {F F2 : List Nat} {g n : Nat} {D2 : DiskSt} {er : Int} {a : Act} {R : Int × DiskSt} (hR : R = (er, D2))
    (h8 : W.heap[w.heap.size + 1]? = some (.cells #[.int .i64 er] 23 (0, 0))) (h6 : W.heap[w.heap.size]? = some (.cells #[.int .i64 0] 23 (0, 0)))
    (hd : Dsk W F2 g n D2) (hf : ∀ x ∈ F2, x ∈ F ∨ w.heap.size + 2 ≤ x) (hF : ∀ x ∈ F, x < w.heap.size) (ht : TS F w W)
    (ha : a.defers = [{ target := .fn (.func 44) #[.pointer (some ⟨w.heap.size + 1, 0, none⟩), .pointer (some ⟨w.heap.size, 0, none⟩)], args := #[] }]) (h6s : a.tmps[6]?.getD undef = .pointer (some ⟨w.heap.size, 0, none⟩)) :
    bodyPostD Try.prog Try.f39 (fun e w' => e = .returned (.int .i64 R.1) ∧ DskRes w F g n R.2 w') .ret a (W.setCell ⟨w.heap.size, 0, none⟩ (.int .i64 er)) := by
  subst hR
  show Leaves _ _ a.tmps _ a.defers .returning _
  rw [ha]
  refine leaves_cons (f := 44) (args := #[.pointer (some ⟨w.heap.size + 1, 0, none⟩), .pointer (some ⟨w.heap.size, 0, none⟩)]) (by simp) (by simp [go_sem]) ?_
  have hne : ∀ {U : World} {v : Value} , TS [w.heap.size] U (U.setCell ⟨w.heap.size, 0, none⟩ v) := fun {U v} => TS.tb (TB.set U 0 v) (by simp)
  have k6 : (W.setCell ⟨w.heap.size, 0, none⟩ (.int .i64 er)).heap[w.heap.size]? = some (.cells #[.int .i64 er] 23 (0, 0)) := by rw [heap_setCell_same _ _ 0 _ _ _ h6]; rfl
  have k8 := ((hne (U := W) (v := .int .i64 er)).block _ (Array.getElem?_eq_some_iff.1 h8).1 (by simp)).trans h8
  refine (pg_SaveD ⟨w.heap.size + 1, 0, none⟩ ⟨w.heap.size, 0, none⟩ er er _ (row1 k8) (row1 k6) (frozen_row _ k6 0)).mono ?_
  rintro e u' w'' ⟨rfl, rfl, rfl⟩
  have m6 : ((W.setCell ⟨w.heap.size, 0, none⟩ (.int .i64 er)).setCell ⟨w.heap.size, 0, none⟩ (.int .i64 er)).heap[w.heap.size]? = some (.cells #[.int .i64 er] 23 (0, 0)) := by rw [heap_setCell_same _ _ 0 _ _ _ k6]; rfl
  have hn : ∀ x ∈ [w.heap.size], x ∉ F2 := fun x hx hm => by
    simp only [List.mem_singleton] at hx; subst hx
    rcases hf _ hm with h | h
    · have := hF _ h; omega
    · omega
  refine ⟨.int .i64 er, ?_, rfl, F2, fun x hx => (hf x hx).imp id (fun h => by omega), (hd.ts hne hn).ts hne hn, (ht.trans hne (fun x hx => .inr (by simp at hx; omega))).trans hne (fun x hx => .inr (by simp at hx; omega))⟩
  have hc := row1 m6
  simp [results, Try.results39, go_sem, h6s, hc]
set_option maxRecDepth 100000 in
set_option maxHeartbeats 4000000 in
theorem pg_Save {w : World} {F : List Nat} {g n : Nat} {D : DiskSt} (h : Dsk w F g n D) (k : Int) (A : Option Addr) (ca : Nat) (xs : List Byte) (hl : xs.length ≤ 100000000000) (hca : xs.length ≤ ca) (hr : Rd w A xs) (hAF : ∀ ad, A = some ad → ad.block ∉ F) :
    Calls Try.prog 39 #[.pointer (some ⟨g, 0, none⟩), .int .i64 k, .slice A xs.length ca] w fun e w' => e = .returned (.int .i64 (sdSave D n k xs).1) ∧ DskRes w F g n (sdSave D n k xs).2 w' := by
  have hmf : ∀ (fn : Fn) (first cap : Array Value) (w : World), (Instr.makeFunc fn first cap).run Try.prog w = .ok (.func fn first cap) w := fun _ _ _ _ => rfl
  have HR := Lib.hid (pg_right (h.fb ((FB.refl w).alloc (.cells #[.int .i64 0] 23))) k)
  have HF := Lib.hid h.lt
  have HN := Lib.hid h.ok.n2
  have H0 := Lib.hid h
  have HX := Lib.hid hr
  have HAF := Lib.hid hAF
  obtain ⟨R, hR⟩ : ∃ R, R = sdSave D n k xs := ⟨_, rfl⟩
  rw [← hR]
  unfold sdSave at hR
  clear h hr hAF
  by_cases ho : pgOut n k
  · rw [if_pos (.inl ho)] at hR
    rw [if_pos ho] at HR
    subst hR
    clear ho hl hca
    go_enter_defers Try.func39, Try.ntmps39
    go_wp2_with fail
    refine HR.out.mono ?_
    rintro e w1 ⟨rfl, rfl⟩
    go_wp2
    refine ⟨.int .i64 2, ?_, rfl, F, fun x hx => .inl hx, H0.out.fb ((FB.refl w).alloc _), TS.of ((FB.refl w).alloc _)⟩
    simp [results, Try.results39, go_sem]
  · rw [if_neg ho] at HR
    have HK := Lib.hid (show 0 ≤ k ∧ k < ((n / 8 : Nat) : Int) from by unfold pgOut at ho; omega)
    by_cases hx : xs.length = 4096
    · rw [if_neg (by simp [ho, hx])] at hR
      have HRR := Lib.hid hR
      have HXL := Lib.hid hx
      have HCA := Lib.hid hca
      rw [hx]
      clear ho hR hx hca hl
      go_enter_defers Try.func39, Try.ntmps39
      go_wp2_with fail
      refine HR.out.mono ?_
      rintro e w1 ⟨rfl, rfl⟩
      go_wp2_with fail
      have HWA := Lib.hid (show FB w ((w.alloc (.cells #[.int .i64 0] 23)).alloc (.cells #[.int .i64 0] 23)) from ((FB.refl w).alloc _).alloc _)
      have HB6 := Lib.hid (show ((w.alloc (.cells #[.int .i64 0] 23)).alloc (.cells #[.int .i64 0] 23)).heap[w.heap.size]? = some (.cells #[.int .i64 0] 23 (0, 0)) from heap_alloc2_old _ _ _)
      have HB8 := Lib.hid (show ((w.alloc (.cells #[.int .i64 0] 23)).alloc (.cells #[.int .i64 0] 23)).heap[w.heap.size + 1]? = some (.cells #[.int .i64 0] 23 (0, 0)) from by
        have := heap_alloc_new (w.alloc (.cells #[.int .i64 0] 23)) (.cells #[.int .i64 0] 23)
        simpa using this)
      have HWS := Lib.hid (show ((w.alloc (.cells #[.int .i64 0] 23)).alloc (.cells #[.int .i64 0] 23)).heap.size = w.heap.size + 2 from by simp)
      have HD0 := Lib.hid (H0.out.fb HWA.out)
      have HX2 := Lib.hid (HWA.out.rd HX.out)
      have HXB := Lib.hid (show ∀ ad, A = some ad → ad.block < w.heap.size from fun ad ha => by
        obtain ⟨b, o, e2, h2, -⟩ := Rd.form HX.out (by have := HXL.out; omega)
        rw [ha] at e2; cases e2; exact h2)
      generalize (w.alloc (.cells #[.int .i64 0] 23)).alloc (.cells #[.int .i64 0] 23) = W2 at *
      go_loopw [20] (fun i wr => ∃ (j : Nat) (D' : DiskSt) (F' : List Nat), j ≤ 8 ∧ i = .int .i64 j ∧ Hid (Dsk wr F' g n D') ∧ Hid (∀ x ∈ F', x ∈ F ∨ w.heap.size + 2 ≤ x) ∧ Hid (TS ((w.heap.size + 1) :: F) W2 wr) ∧ Hid (wr.heap[w.heap.size + 1]? = some (.cells #[.int .i64 0] 23 (0, 0))) ∧ Hid (R = svF n k xs (8 - j) j D')) (fun i _ => 8 - (intOf i).toNat)
      case atStart => exact ⟨0, D, F, by omega, rfl, HD0, Lib.hid (fun x hx => .inl hx), Lib.hid (TS.refl _ _), HB8, HRR⟩
      case round =>
        obtain ⟨j, D', F', hj, rfl, HD, HFF, HT, HC8, HRJ⟩ := hrel
        have HWL := Lib.hid (show w.heap.size + 2 ≤ wr.heap.size from by have := HT.out.size; have := HWS.out; omega)
        have HN6 := Lib.hid (show w.heap.size ∉ (w.heap.size + 1) :: F from fun hm => by
          rcases List.mem_cons.1 hm with hm | hm
          · omega
          · have := HF.out _ hm; omega)
        have HC6 := Lib.hid ((HT.out.block _ (Array.getElem?_eq_some_iff.1 HB6.out).1 HN6.out).trans HB6.out)
        have HFN := Lib.hid (show w.heap.size ∉ F' ∧ w.heap.size + 1 ∉ F' from ⟨fun hm => by
            rcases HFF.out _ hm with hm | hm
            · have := HF.out _ hm; omega
            · omega, fun hm => by
            rcases HFF.out _ hm with hm | hm
            · have := HF.out _ hm; omega
            · omega⟩)
        by_cases hlt : j < 8
        · have hz : (j : Int) < 8 := by omega
          have HJ := Lib.hid hlt
          have hw1 : IntKind.i64.wrap (k * 8) = k * 8 := by rw [IntKind.wrap_i64]; have := HK.out; have := HN.out; omega
          have hw2 : IntKind.i64.wrap (k * 8 + (j : Int)) = k * 8 + (j : Int) := by rw [IntKind.wrap_i64]; have := HK.out; have := HN.out; omega
          have hw3 : IntKind.i64.wrap ((j : Int) + 1) = (j : Int) + 1 := by rw [IntKind.wrap_i64]; omega
          obtain ⟨kk, hkk⟩ : ∃ kk, kk = 512 * j := ⟨_, rfl⟩
          have hw4 : IntKind.i64.wrap ((j : Int) * 512) = (kk : Int) := by rw [IntKind.wrap_i64]; omega
          have hw5 : IntKind.i64.wrap (((j : Int) + 1) * 512) = (kk : Int) + 512 := by rw [IntKind.wrap_i64]; omega
          obtain ⟨A34, hcut, hcr, hcb⟩ := cut_at A ca xs kk 512 (by rw [HXL.out]; omega) HCA.out
          rw [HXL.out] at hcut
          have hcut : ∀ W, (Instr.slice 29 (.slice A 4096 ca) (some (.int .i64 (kk : Int))) (some (.int .i64 ((kk : Int) + 512))) none).run Try.prog W = .ok (.slice A34 512 (ca - kk)) W := hcut
          have hsl : (sec xs j).length = 512 := sec_len (n := 8) HXL.out hlt
          have hrs : Rd wr A34 (sec xs j) := by
            have := hcr wr (HT.out.rd HX2.out (fun ad ha hm => by
              rcases List.mem_cons.1 hm with hm | hm
              · have := HXB.out ad ha; omega
              · exact HAF.out ad ha hm))
            rw [hkk] at this
            exact this
          have hA34 : ∀ ad, A34 = some ad → ad.block < w.heap.size ∧ ad.block ∉ F := fun ad ha => by
            have hq := hcb (by have := HCA.out; have := HXL.out; omega)
            rw [hq] at ha
            cases A with
            | none => cases ha
            | some a0 =>
              have hb0 : ad.block = a0.block := by
                simp only [Option.map_some, Option.some.injEq] at ha
                rw [← ha]; unfold Addr.add; split <;> rfl
              rw [hb0]
              exact ⟨HXB.out a0 rfl, HAF.out a0 rfl⟩
          have HC := Lib.hid (dsk_Write HD.out (k * 8 + (j : Int)) A34 512 (ca - kk) (sec xs j) hsl.symm (by rw [hsl]; omega) hrs (fun ad ha hm => by
            rcases HFF.out _ hm with hm | hm
            · exact (hA34 ad ha).2 hm
            · have := (hA34 ad ha).1; omega))
          have hrj := HRJ.out
          rw [show 8 - j = (7 - j) + 1 from by omega, svF] at hrj
          have HRJ2 := Lib.hid hrj
          generalize sdWrite D' n (k * 8 + (j : Int)) (sec xs j) = t at *
          obtain ⟨er, D2⟩ := t
          clear hrj HRJ hcr hcb hsl hrs hA34 hkk hlt hj
          go_wp2_with fail
          refine HC.out.mono ?_
          rintro e w2 ⟨rfl, F2, hf2, hd2, ht2⟩
          have HD2 := Lib.hid hd2
          have HF2 := Lib.hid (show ∀ x ∈ F2, x ∈ F ∨ w.heap.size + 2 ≤ x from fun x hx => by
            rcases hf2 x hx with h | h
            · exact HFF.out x h
            · right; have := HWL.out; omega)
          have HT2 := Lib.hid (HT.out.trans ht2 (fun x hx => by
            rcases HFF.out x hx with h | h
            · exact .inl (List.mem_cons_of_mem _ h)
            · right; have := HWS.out; omega))
          have HC82 := Lib.hid ((ht2.block _ (Array.getElem?_eq_some_iff.1 HC8.out).1 HFN.out.2).trans HC8.out)
          have HC62 := Lib.hid ((ht2.block _ (Array.getElem?_eq_some_iff.1 HC6.out).1 HFN.out.1).trans HC6.out)
          have HFN2 := Lib.hid (show w.heap.size ∉ F2 ∧ w.heap.size + 1 ∉ F2 from ⟨fun hm => by
            rcases HF2.out _ hm with hm | hm
            · have := HF.out _ hm; omega
            · omega, fun hm => by
            rcases HF2.out _ hm with hm | hm
            · have := HF.out _ hm; omega
            · omega⟩)
          have q8 := row1 HC82.out
          have f8 := frozen_row _ HC82.out 0
          have HC83 := Lib.hid (show (w2.setCell ⟨w.heap.size + 1, 0, none⟩ (.int .i64 er)).heap[w.heap.size + 1]? = some (.cells #[.int .i64 er] 23 (0, 0)) from by
            rw [heap_setCell_same _ _ 0 _ _ _ HC82.out]; rfl)
          have HTB := Lib.hid (show TS [w.heap.size + 1] w2 (w2.setCell ⟨w.heap.size + 1, 0, none⟩ (.int .i64 er)) from TS.tb (TB.set w2 0 _) (by simp))
          have HC63 := Lib.hid ((HTB.out.block _ (Array.getElem?_eq_some_iff.1 HC62.out).1 (by simp)).trans HC62.out)
          have HD3 := Lib.hid (HD2.out.ts HTB.out (fun x hx => by simp only [List.mem_singleton] at hx; subst hx; exact HFN2.out.2))
          have HT3 := Lib.hid (HT2.out.trans HTB.out (fun x hx => by simp only [List.mem_singleton] at hx; subst hx; exact .inl (by simp)))
          clear hf2 hd2 ht2 HC hcut hw4 hw5 HD HT HC8 HC6 HD2 HT2 HC62 HFN HN6
          by_cases he : er = 0
          · subst he
            have hrj := HRJ2.out
            rw [if_pos rfl] at hrj
            have HRJ3 := Lib.hid hrj
            clear hrj HRJ2
            go_upto_region 12 with fail
            clear q8 f8
            have q8 := row1 HC83.out
            generalize w2.setCell ⟨w.heap.size + 1, 0, none⟩ (.int .i64 0) = w3 at *
            go_wp2
            go_roundw
            case rel => exact ⟨j + 1, D2, F2, by have := HJ.out; omega, by go_num, HD3, HF2, HT3, HC83, Lib.hid (by rw [show 8 - (j + 1) = 7 - j by omega]; exact HRJ3.out)⟩
            case measure => (show 8 - ((j : Int) + 1).toNat < 8 - ((j : Int)).toNat; have := HJ.out; omega)
          · have heb : (er != 0) = true := by simpa using he
            have hrj := HRJ2.out
            rw [if_neg he] at hrj
            have HRJ3 := Lib.hid hrj
            clear hrj HRJ2 he
            go_upto_region 12 with fail
            clear q8 f8
            have q8 := row1 HC83.out
            have q6 := row1 HC63.out
            have f6 := frozen_row _ HC63.out 0
            generalize w2.setCell ⟨w.heap.size + 1, 0, none⟩ (.int .i64 er) = w3 at *
            go_wp2
            exact sv_door HRJ3.out HC83.out HC63.out HD3.out HF2.out HF.out (by
              have h1 := (TS.of (F := F) HWA.out).trans HT3.out (fun x hx => by
                rcases List.mem_cons.1 hx with hx | hx
                · right; omega
                · exact .inl hx)
              exact h1) rfl rfl
        · obtain rfl : j = 8 := by omega
          have hq := HRJ.out
          rw [svF] at hq
          have HRJ3 := Lib.hid hq
          have q8 := row1 HC8.out
          have q6 := row1 HC6.out
          have f6 := frozen_row _ HC6.out 0
          have HC83 := HC8
          have HC63 := HC6
          have HFN2 := HFN
          have HF2 := HFF
          have HD3 := HD
          have HT3 := HT
          clear hq HRJ HFN HD HT HFF HC8 HC6
          go_wp2
          exact sv_door HRJ3.out HC83.out HC63.out HD3.out HF2.out HF.out (by
            have h1 := (TS.of (F := F) HWA.out).trans HT3.out (fun x hx => by
              rcases List.mem_cons.1 hx with hx | hx
              · right; omega
              · exact .inl hx)
            exact h1) rfl rfl
    · rw [if_pos (.inr hx)] at hR
      subst hR
      have hxe : ((xs.length : Int) != 4096) = true := by rw [bne_iff_ne]; omega
      clear ho hx hl hca
      go_enter_defers Try.func39, Try.ntmps39
      go_wp2_with fail
      refine HR.out.mono ?_
      rintro e w1 ⟨rfl, rfl⟩
      go_wp2
      refine ⟨.int .i64 2, ?_, rfl, F, fun x hx => .inl hx, H0.out.fb ((FB.refl w).alloc _), TS.of ((FB.refl w).alloc _)⟩
      simp [results, Try.results39, go_sem]
end Go.Proofs.Ytoidlmhebnlnbaa
