/- pool: the walks through New, Frames. -/
import Derived.Test.YtoidlmhebnlnbaaPlH
set_option linter.unusedVariables false
set_option linter.unusedSimpArgs false
namespace Go.Proofs.Ytoidlmhebnlnbaa
open Go.ChangeShapes Go.WideShapes Go.ChangeAt Go.RowKit
attribute [local go_sem] nb_nonneg nb_lt8 nb_lt64
set_option maxRecDepth 100000

theorem mk_frames (k : Nat) (hk : k ≤ 256) : ∃ C : Array Value,
    (∀ W : World, (Instr.makeSlice 54 (.int .i64 k) (.int .i64 k)).run Try.prog W = .ok (.slice (some ⟨W.heap.size, 0, none⟩) k k) (W.alloc (.cells C 63))) ∧
    C = (frFlat (List.replicate k frx0)).toArray := by
  obtain ⟨i, hi, hz, hsz, hb⟩ := info_parts info_fr
  refine ⟨madeCells fr0s (k * 6), fun W => ?_, ?_⟩
  · have h := run_make (P := Try.prog) W 54 63 i _ Try.underlying54 hi hz .i64 .i64 (k : Int) (k : Int) (by omega) (Int.le_refl _) (by rw [hb]; omega) (by omega)
    rw [hsz] at h
    simpa [Value.cells, fr0s] using h
  · rw [← fr_made]
section
variable {w w' w1 w2 : World} {F : List Nat} {g n gp gf hand : Nat} {xs : List FrX} {D : DiskSt} {st st' : PlSt}
def plBad (n : Nat) (k : Int) : Prop := n / 8 = 0 ∨ k < 8 ∨ 256 < k
set_option maxHeartbeats 1000000 in
theorem pl_New_nil (k : Int) (w : World) :
    Calls Try.prog 7 #[.pointer none, .int .i64 k] w fun e w' => e = .returned (.tuple #[.pointer none, .int .i64 1]) ∧ w = w' := by
  go_enter Try.func7, Try.ntmps7
  go_wp2
  go_ret2
  exact ⟨rfl, rfl⟩
set_option maxHeartbeats 1000000 in
theorem pl_New_arg (h : Dsk w F g n D) (k : Int) (hk : plBad n k) :
    Calls Try.prog 7 #[.pointer (some ⟨g, 0, none⟩), .int .i64 k] w fun e w' => e = .returned (.tuple #[.pointer none, .int .i64 2]) ∧ w = w' := by
  have HS := Lib.hid (dsk_Sectors h)
  have HP := Lib.hid (pg_Pages h)
  have hn0 : ((n : Int) == 0) = false := by have := h.ok.n1; rw [beq_eq_false_iff_ne]; omega
  have hn1 : ¬ (n : Int) = 0 := by have := h.ok.n1; omega
  clear h
  go_enter Try.func7, Try.ntmps7
  go_wp2_with fail
  refine HS.out.mono ?_
  rintro e w1 ⟨rfl, rfl⟩
  go_wp2_with fail
  refine HP.out.mono ?_
  rintro e w1 ⟨rfl, rfl⟩
  unfold plBad at hk
  generalize n / 8 = m at *
  by_cases h1 : m = 0
  · subst h1
    clear hk
    go_wp2
    go_ret2
    exact ⟨rfl, rfl⟩
  have hm0 : ((m : Int) == 0) = false := by rw [beq_eq_false_iff_ne]; omega
  have hm1 : ¬ (m : Int) = 0 := by omega
  by_cases h2 : k < 8
  · clear hk h1
    go_wp2
    go_ret2
    exact ⟨rfl, rfl⟩
  have h3 : 256 < k := by omega
  clear hk h1
  go_wp2
  go_ret2
  exact ⟨rfl, rfl⟩
set_option maxHeartbeats 1000000 in
theorem pl_New_ok (h : Dsk w F g n D) (k : Nat) (hn : 1 ≤ n / 8) (h8 : 8 ≤ k) (h256 : k ≤ 256) :
    Calls Try.prog 7 #[.pointer (some ⟨g, 0, none⟩), .int .i64 k] w fun e w' => ∃ gp gf, e = .returned (.tuple #[.pointer (some ⟨gp, 0, none⟩), .int .i64 0]) ∧ Pol w' F g n gp gf (List.replicate k frx0) 0 D ∧ FB w w' ∧ w.heap.size ≤ gp ∧ w.heap.size ≤ gf := by
  have HS := Lib.hid (dsk_Sectors h)
  have HP := Lib.hid (pg_Pages h)
  have hn0 : ((n : Int) == 0) = false := by have := h.ok.n1; rw [beq_eq_false_iff_ne]; omega
  have hn1 : ¬ (n : Int) = 0 := by have := h.ok.n1; omega
  have hm0 : (((n / 8 : Nat) : Int) == 0) = false := by rw [beq_eq_false_iff_ne]; omega
  have hm1 : ¬ ((n / 8 : Nat) : Int) = 0 := by omega
  have h2 : ¬ (k : Int) < 8 := by omega
  have h3 : ¬ 256 < (k : Int) := by omega
  obtain ⟨C, hmk, hC⟩ := mk_frames k h256
  have HC := Lib.hid hC
  have H := Lib.hid h
  have HK := Lib.hid (And.intro h8 h256)
  clear h hC
  go_enter Try.func7, Try.ntmps7
  go_wp2_with fail
  refine HS.out.mono ?_
  rintro e w1 ⟨rfl, rfl⟩
  go_wp2_with fail
  refine HP.out.mono ?_
  rintro e w1 ⟨rfl, rfl⟩
  generalize n / 8 = m at *
  go_wp2
  go_ret2
  have hf1 := (FB.refl w).alloc (.cells C 63)
  have hf2 := hf1.alloc (.cells #[.pointer (some ⟨g, 0, none⟩), .slice (some ⟨w.heap.size, 0, none⟩) k k, .int .i64 0] 56)
  have hnF : ∀ x ∈ F, x < w.heap.size := H.out.lt
  refine ⟨w.heap.size + 1, w.heap.size, ?_, ⟨H.out.fb hf2, ?_, ?_, fun x hx => ?_, fun x hx => ?_, ⟨by omega, fun hm => by have := hnF _ hm; omega, fun hm => by have := hnF _ hm; omega⟩, by rw [List.length_replicate]; have := HK.out; omega, by rw [List.length_replicate]; exact HK.out.2⟩, hf2, by omega, by omega⟩
  · simp
  · have := heap_alloc_new (w.alloc (.cells C 63)) (.cells #[.pointer (some ⟨g, 0, none⟩), .slice (some ⟨w.heap.size, 0, none⟩) k k, .int .i64 0] 56)
    rw [List.length_replicate]
    simpa using this
  · have := heap_alloc_old (w.alloc (.cells C 63)) (.cells #[.pointer (some ⟨g, 0, none⟩), .slice (some ⟨w.heap.size, 0, none⟩) k k, .int .i64 0] 56) (show w.heap.size < _ from by simp)
    rw [this, ← HC.out]
    exact heap_alloc_new _ _
  · rw [List.eq_of_mem_replicate hx]
    have := frx0_ok w F 0 0
    exact ⟨Rd.nil _ _, this.2.1, this.2.2.1, (fun ad ha => by cases ha)⟩
  · rw [List.eq_of_mem_replicate hx]; exact (frx0_ok w F 0 0).2.2.2.2
/-- What Frames returns: five cells a frame. -/
def afCs (f : Frm) : List Value := [.bool f.is, .int .i64 f.pg, .int .i64 f.pins, .bool f.dirty, .bool f.used]
theorem afCs_len (fs : List Frm) : (fs.flatMap afCs).length = fs.length * 5 := by
  induction fs with
  | nil => rfl
  | cons x xs ih => rw [List.flatMap_cons, List.length_append, ih, List.length_cons]; simp [afCs]; omega
theorem apf_list {ops : Array Oper} {rest : List Oper} {o : Oper} {a : Act} {w : World} {Q : Exit → Act → World → Prop} (hgd : o.guard = none) (s x : Operand)
    (ho : o.op = .call { callee := .builtin .append, args := #[s, x], argTypes := #[42, 42] })
    (base : Nat) (v : Value) (k : Nat) (fs : List Frm) (hown : w.ownsRow base 45 5 v k (fs.flatMap afCs)) (hs : a.eval s = v) (gb : Nat) (f : Frm) (hx : a.eval x = .slice (some ⟨gb, 0, none⟩) 1 1)
    (hb : w.heap[gb]? = some (.cells #[.bool f.is, .int .i64 f.pg, .int .i64 f.pins, .bool f.dirty, .bool f.used] 45 (0, 0))) (hk : k ≤ 256) (hbase : base ≤ w.heap.size)
    (h : ∀ v' w', w'.ownsRow base 45 5 v' (k + 1) ((fs ++ [f]).flatMap afCs) → w.grownBy w' v.ownBlock → wpList Try.prog ops Q rest (a.put o.dst v') w') : wpList Try.prog ops Q (o :: rest) a w := by
  obtain ⟨i, hi, hz, hsz, hby⟩ := info_parts info_af
  refine wpList_append_own w hgd s x 42 ho base 45 i _ 5 32 Try.underlying42 hi hz hsz hby rfl (by omega) v k _ hs hown ⟨gb, 0, none⟩ 1 1 (afCs f) hx rfl ?_ ?_ (by rw [maxLen_eq]; omega) (by omega) hbase fun v' w' h1 h2 _ => h v' w' (by rw [List.flatMap_append]; simpa using h1) h2
  · intro j u hu
    rw [show (⟨gb, 0, none⟩ : Addr).add j = ⟨gb, j, none⟩ from by unfold Addr.add; split <;> simp_all, cell_of_row _ _ _ _ _ _ hb]
    show (List.toArray (afCs f))[j]? = some u
    rw [List.getElem?_toArray]
    exact hu
  · intro u hu
    unfold afCs at hu
    simp only [List.mem_cons, List.not_mem_nil, or_false] at hu
    rcases hu with rfl | rfl | rfl | rfl | rfl <;> rfl
set_option maxHeartbeats 2000000 in
theorem pl_Frames (h : Pol w F g n gp gf xs hand D) :
    Calls Try.prog 19 #[.pointer (some ⟨gp, 0, none⟩)] w fun e w' => ∃ v, e = .returned v ∧ w'.ownsRow w.heap.size 45 5 v xs.length ((xs.map (·.f)).flatMap afCs) ∧ FB w w' := by
  have HM := Lib.hid (pl_made h)
  obtain ⟨p0, p1, p2⟩ := h.pcells
  have H := Lib.hid h
  have HN := Lib.hid h.n256
  clear h
  go_enter Try.func19, Try.ntmps19
  go_wp2_with fail
  refine HM.out.mono ?_
  rintro e w1 ⟨rfl, rfl⟩
  go_wp2_with fail
  clear p0 p1 p2 HM
  go_loopw [2, 4, 13] (fun v _ i wr => ∃ (j : Nat), j ≤ xs.length ∧ i = .int .i64 j ∧ Hid (wr.ownsRow w.heap.size 45 5 v j (((xs.map (·.f)).take j).flatMap afCs)) ∧ Hid (FB w wr)) (fun _ _ i _ => xs.length - (intOf i).toNat)
  case atStart => exact ⟨0, by omega, rfl, Lib.hid (World.ownsRow_nil _ _ _ _), Lib.hid (FB.refl _)⟩
  case round =>
    obtain ⟨j, hj, rfl, HO, HF⟩ := hrel
    by_cases hlt : j < xs.length
    · have hz : (j : Int) < (xs.length : Int) := by omega
      have HJ := Lib.hid hlt
      have hwk : IntKind.i64.wrap ((j : Int) + 1) = (j : Int) + 1 := by rw [IntKind.wrap_i64]; have := HN.out; omega
      have HP := Lib.hid (H.out.fb HF.out)
      obtain ⟨c0, c1, c2, c3, c4, c5⟩ := HP.out.cells j HJ.out
      have HX := Lib.hid (show (xs.map (·.f)).take (j + 1) = (xs.map (·.f)).take j ++ [(xs[j]'(HJ.out)).f] from by
        rw [List.take_add_one, List.getElem?_map, List.getElem?_eq_getElem HJ.out]; rfl)
      generalize xs[j]'(HJ.out) = x at *
      clear hlt hj H
      have HO2 := Lib.hid (fun (o1 o2 : Obj) => (HO.out.alloc o1).alloc o2)
      have HF2 := Lib.hid (fun (o1 o2 : Obj) => (HF.out.alloc o1).alloc o2)
      have HNB := Lib.hid (fun (o1 o2 : Obj) => show ((wr.alloc o1).alloc o2).heap[wr.heap.size + 1]? = some o2 from by have := heap_alloc_new (wr.alloc o1) o2; simpa using this)
      have HOV := Lib.hid (fun kk hk => (HO.out.lt kk hk).1)
      go_wp2_with (at_builtin; refine apf_list rfl _ _ rfl w.heap.size _ j ((xs.map (·.f)).take j) (HO2.out _ _) rfl (wr.heap.size + 1) x.f rfl (HNB.out _ _) (by have := HJ.out; have := HN.out; omega) (by have := HF.out.le; simp; omega) ?_; intro v' w3 ho hg; have HO3 := Lib.hid ho; have HG := Lib.hid hg; clear ho hg)
      have HF3 := Lib.hid ((HF2.out _ _).grown HG.out HOV.out)
      go_roundw
      case rel => exact ⟨j + 1, by have := HJ.out; omega, by go_num, by rw [HX.out]; exact HO3, HF3⟩
      case measure => (show xs.length - ((j : Int) + 1).toNat < xs.length - ((j : Int)).toNat; have := HJ.out; omega)
    · have hz : ¬ (j : Int) < (xs.length : Int) := by omega
      have HE := Lib.hid (show j = xs.length from by omega)
      clear hlt hj
      go_wp2
      go_ret
      have ho := HO.out
      rw [HE.out] at ho
      rw [List.take_of_length_le (by rw [List.length_map]; omega)] at ho
      exact ⟨_, rfl, ho, HF.out⟩
end
end Go.Proofs.Ytoidlmhebnlnbaa
