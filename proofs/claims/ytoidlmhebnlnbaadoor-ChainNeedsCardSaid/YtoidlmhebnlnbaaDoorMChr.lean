/- Walks and laws that the claim's last text stands on, several texts in one file: ChH, ChJ, ChK. Under the hypotheses that each theorem states. -/
import Derived.Test.YtoidlmhebnlnbaaDoorMCha
import Derived.Test.YtoidlmhebnlnbaaDoorMChb
import Derived.Test.YtoidlmhebnlnbaaDoorMChc
import Derived.Test.YtoidlmhebnlnbaaDoorMChd
import Derived.Test.YtoidlmhebnlnbaaDoorMChe
import Derived.Test.YtoidlmhebnlnbaaDoorMChf
import Derived.Test.YtoidlmhebnlnbaaDoorMChg
import Derived.Test.YtoidlmhebnlnbaaDoorMChh
import Derived.Test.YtoidlmhebnlnbaaDoorMChi
import Derived.Test.YtoidlmhebnlnbaaDoorMChj
import Derived.Test.YtoidlmhebnlnbaaDoorMChk
import Derived.Test.YtoidlmhebnlnbaaDoorMChl
import Derived.Test.YtoidlmhebnlnbaaDoorMChm
import Derived.Test.YtoidlmhebnlnbaaDoorMChn
import Derived.Test.YtoidlmhebnlnbaaDoorMCho
import Derived.Test.YtoidlmhebnlnbaaDoorMChp
import Derived.Test.YtoidlmhebnlnbaaDoorMChq
/- chain: the walk through Read. -/
set_option linter.unusedVariables false
set_option linter.unusedSimpArgs false
namespace Go.Proofs.YtoidlmhebnlnbaaDoor
open Go.ChangeShapes Go.WideShapes Go.ChangeAt Go.RowKit
attribute [local go_sem] nb_nonneg nb_lt8 nb_lt64 Oper.semAt_some
set_option maxRecDepth 100000

/-- Five boxes. -/
def chBox5 (w : World) (gp er : Nat) (kind head most : Int) : World :=
  ((((w.alloc (.cells #[.pointer (some ⟨gp, 0, none⟩)] 33)).alloc (.cells #[.int .i64 kind] 3)).alloc (.cells #[.int .i64 head] 3)).alloc (.cells #[.int .i64 most] 3)).alloc (.cells #[.pointer (some ⟨er, 0, none⟩)] 68)
set_option maxHeartbeats 400000 in
theorem ch_parts (gp er : Nat) (kind head most : Int) (w : World) : Calls Tryd.prog 27 #[.pointer (some ⟨gp, 0, none⟩), .int .i64 kind, .int .i64 head, .int .i64 most, .pointer (some ⟨er, 0, none⟩)] w fun e w' =>
    e = .returned (.func (.func 45) #[] #[.pointer (some ⟨w.heap.size, 0, none⟩), .pointer (some ⟨w.heap.size + 2, 0, none⟩), .pointer (some ⟨w.heap.size + 4, 0, none⟩), .pointer (some ⟨w.heap.size + 1, 0, none⟩), .pointer (some ⟨w.heap.size + 3, 0, none⟩)]) ∧ w' = chBox5 w gp er kind head most := by
  have hmf : ∀ (fn : Fn) (first cap : Array Value) (w : World), (Instr.makeFunc fn first cap).run Tryd.prog w = .ok (.func fn first cap) w := fun _ _ _ _ => rfl
  go_enter Tryd.func27, Tryd.ntmps27
  go_wp2
  go_ret
  exact ⟨rfl, rfl⟩
/-- Three variables, then five boxes. -/
def chVars (w : World) (gp : Nat) (kind head most : Int) : World :=
  chBox5 (((w.alloc (.cells #[.slice none 0 0] 27)).alloc (.cells #[.slice none 0 0] 26)).alloc (.cells #[.int .i64 0] 23)) gp (w.heap.size + 2) kind head most
theorem chVars_facts (w : World) (gp : Nat) (kind head most : Int) : FB w (chVars w gp kind head most) ∧ (chVars w gp kind head most).heap.size = w.heap.size + 8 ∧
    Boxed (chVars w gp kind head most) w.heap.size 27 (.slice none 0 0) ∧ Boxed (chVars w gp kind head most) (w.heap.size + 1) 26 (.slice none 0 0) ∧ Boxed (chVars w gp kind head most) (w.heap.size + 2) 23 (.int .i64 0) ∧
    Boxed (chVars w gp kind head most) (w.heap.size + 3) 33 (.pointer (some ⟨gp, 0, none⟩)) ∧ Boxed (chVars w gp kind head most) (w.heap.size + 4) 3 (.int .i64 kind) ∧ Boxed (chVars w gp kind head most) (w.heap.size + 5) 3 (.int .i64 head) ∧
    Boxed (chVars w gp kind head most) (w.heap.size + 6) 3 (.int .i64 most) ∧ Boxed (chVars w gp kind head most) (w.heap.size + 7) 68 (.pointer (some ⟨w.heap.size + 2, 0, none⟩)) := by
  have q : ∀ (W : World) (k : Nat) (t : TypeId) (v : Value), W.heap.size = k → Boxed (W.alloc (.cells #[v] t)) k t v := fun W k t v hk => hk ▸ Boxed.new W t v
  unfold chVars chBox5
  refine ⟨((((((((FB.refl w).alloc _).alloc _).alloc _).alloc _).alloc _).alloc _).alloc _).alloc _, by simp, ?_, ?_, ?_, ?_, ?_, ?_, ?_, ?_⟩
  · exact (((((((q w _ _ _ rfl).alloc _).alloc _).alloc _).alloc _).alloc _).alloc _).alloc _
  · exact ((((((q _ _ _ _ (by simp)).alloc _).alloc _).alloc _).alloc _).alloc _).alloc _
  · exact (((((q _ _ _ _ (by simp)).alloc _).alloc _).alloc _).alloc _).alloc _
  · exact ((((q _ _ _ _ (by simp)).alloc _).alloc _).alloc _).alloc _
  · exact (((q _ _ _ _ (by simp)).alloc _).alloc _).alloc _
  · exact ((q _ _ _ _ (by simp)).alloc _).alloc _
  · exact (q _ _ _ _ (by simp)).alloc _
  · exact q _ _ _ _ (by simp)
/-- What reading a chain returns. -/
def chRead (n : Nat) (kind head most : Int) (st : PlSt) : (List Byte × List Int × Int) × PlSt :=
  if chIs kind = true ∧ 2 ≤ head then
    if (chRd n kind most (chFuel most) 0 [] head st).1.2 = 0 then (((chRd n kind most (chFuel most) 0 [] head st).1.1.flatMap (·.2), (chRd n kind most (chFuel most) 0 [] head st).1.1.map (·.1), 0), (chRd n kind most (chFuel most) 0 [] head st).2)
    else (([], [], (chRd n kind most (chFuel most) 0 [] head st).1.2), (chRd n kind most (chFuel most) 0 [] head st).2)
  else (([], [], 2), st)
def ChRdR (w0 : World) (K : List Nat) (g n gp gf : Nat) (r : (List Byte × List Int × Int) × PlSt) (w : World) (e : Ending) (w' : World) : Prop :=
  ∃ A ca B cb, e = .returned (.tuple #[.slice A r.1.1.length ca, .slice B r.1.2.1.length cb, .int .i64 r.1.2.2]) ∧ Rd w' A r.1.1 ∧ RdV w' B (r.1.2.1.map (.int .i64)) ∧ r.1.1.length ≤ ca ∧ ca ≤ maxLen ∧
    (∀ ad, A = some ad → w.heap.size ≤ ad.block) ∧ (∀ ad, B = some ad → w.heap.size ≤ ad.block) ∧ PoA w0 (optBlk A ++ optBlk B ++ K) g n gp gf r.2 w' ∧ KP K w w'
/-- The frame at the loop. -/
def chT (gp gl fl cap q : Nat) (kind head most : Int) (hb : Bool) (v14 v34 : Value) : Array Value :=
  #[.pointer (some ⟨gp, 0, none⟩), .int .i64 kind, .int .i64 head, .int .i64 most, undef, undef, undef, undef, .slice none 0 0, .slice none 0 0, .int .i64 0, .pointer (some ⟨q, 0, none⟩), .pointer (some ⟨q + 1, 0, none⟩), .pointer (some ⟨q + 2, 0, none⟩), v14,
    .pointer (some ⟨gp, 0, none⟩), .bool false, .bool false, .pointer (some ⟨gp, 0, none⟩), .slice (some ⟨gl, 0, none⟩) fl cap, .bool false, .bool false, .int .i64 kind, .bool true, .bool false, .bool false, .int .i64 head, .bool hb, .bool hb,
    .pointer (some ⟨gp, 0, none⟩), .int .i64 kind, .int .i64 head, .int .i64 most, .func (.func 45) #[] #[.pointer (some ⟨q + 3, 0, none⟩), .pointer (some ⟨q + 5, 0, none⟩), .pointer (some ⟨q + 7, 0, none⟩), .pointer (some ⟨q + 4, 0, none⟩), .pointer (some ⟨q + 6, 0, none⟩)],
    v34, undef, undef, undef, undef, undef, undef, undef, undef, undef, undef, undef, undef, undef, undef]
/-- Behind the assignment. -/
def ChB (T : Value → Value → Array Value) (K0 : List Nat) (w : World) (n q : Nat) (pre : List ChX) (x : ChX) (K : List Nat) (a : Act) (W : World) : Prop :=
  ∃ gx, a = { tmps := T (.pointer (some ⟨gx, 0, none⟩)) (.agg #[.int .i64 x.pg, .slice x.A x.b.length x.c]), defers := [] } ∧ ChC K0 w q pre K W ∧ W.heap[gx]? = some (.cells #[.int .i64 x.pg, .slice x.A x.b.length x.c] 70 (0, 0)) ∧ gx ∈ K ∧ gx ≠ q ∧ gx ≠ q + 1 ∧ Rd W x.A x.b ∧ x.b.length ≤ 4074 ∧ pre.length < n / 8 ∧ (∀ y ∈ pre, y.b.length ≤ 4074)
theorem rd_put {W : World} {A : Option Addr} {xs : List Byte} {l : Nat} {o o' : Obj} (h : Rd W A xs) (hl : W.heap[l]? = some o) (hc : o.isCells = false) : Rd (W.putObj l o') A xs :=
  RdV.move h fun a v e hv => by
    refine (World.cell?_of_block (World.putObj_heap_other (fun e => ?_))).trans hv
    subst e
    unfold World.cell? at hv
    rw [hl] at hv
    cases o <;> simp_all [Obj.isCells]
theorem ChB.put {T : Value → Value → Array Value} {K0 K : List Nat} {w W : World} {n q : Nat} {pre : List ChX} {x : ChX} {a : Act} (h : ChB T K0 w n q pre x K a W) (hk : ∀ k ∈ K0, k < w.heap.size) {l : Nat} {o o' : Obj} (hl : w.heap.size ≤ l) (ho : W.heap[l]? = some o) (hc : o.isCells = false) : ChB T K0 w n q pre x K a (W.putObj l o') := by
  obtain ⟨gx, h1, h2, h3, h4, h5, h6, h7, h8⟩ := h
  refine ⟨gx, h1, h2.put hk hl ho hc, (World.putObj_heap_other (fun e => ?_)).trans h3, h4, h5, h6, rd_put h7 ho hc, h8⟩
  subst e; rw [ho] at h3; cases h3; cases hc
theorem flat_len {pre : List ChX} {m : Nat} (h : ∀ y ∈ pre, y.b.length ≤ 4074) (hm : pre.length ≤ m) : (pre.flatMap (·.b)).length ≤ 4074 * m := by
  have key : ∀ l : List ChX, (∀ y ∈ l, y.b.length ≤ 4074) → (l.flatMap (·.b)).length ≤ 4074 * l.length := by
    intro l
    induction l with
    | nil => simp
    | cons x l ih =>
      intro h
      rw [List.flatMap_cons, List.length_append, List.length_cons]
      have h1 := h x (by simp)
      have h2 := ih (fun y hy => h y (by simp [hy]))
      omega
  have := key pre h
  omega
theorem boxed_cell {W : World} {B : Nat} {t : TypeId} {v : Value} (h : Boxed W B t v) : W.cell? ⟨B, 0, none⟩ = some v := h.cell
/-- The block of the deferred calls is shut. -/
theorem ch_leave {w0 w W : World} {K K1 : List Nat} {g n gp gf q D nq : Nat} {st : PlSt} {pre : List ChX} (hp : PoA w0 K1 g n gp gf st W) (hc : ChC K w q pre K1 W) (hd : W.heap[D]? = some (.deferred (some []))) (hD : D ∈ K1) (hge : ∀ k ∈ K1, w0.heap.size ≤ k) (hk : ∀ k ∈ K, k < w.heap.size) (hw : w.heap.size ≤ D) :
    PoA w0 K1 g n gp gf st ((W.drewN nq).putObj D (.deferred none)) ∧ KP K w ((W.drewN nq).putObj D (.deferred none)) ∧ (∀ A xs, Rd W A xs → Rd ((W.drewN nq).putObj D (.deferred none)) A xs) ∧ (∀ A vs, RdV W A vs → RdV ((W.drewN nq).putObj D (.deferred none)) A vs) := by
  have hFD : FB W (W.drewN nq) := below_drewN _ W nq
  have key : ∀ A vs, RdV W A vs → RdV ((W.drewN nq).putObj D (.deferred none)) A vs := fun A vs h => RdV.move h fun a v _ hv => by
    refine (World.cell?_of_block (w := W) (World.putObj_heap_other (fun e => ?_))).trans hv
    subst e
    unfold World.cell? at hv
    rw [hd] at hv
    simp at hv
  have h1 := (hp.byFB hFD).1
  have h2 := PoA.turns (I := []) (K := K1) h1 (Turns.put h1.kl hD (.deferred none)) hge
  refine ⟨h2, (hc.kp.trans ⟨hFD.le, fun b hb => rfl⟩).trans (KP.put (fun hm => by have := hk D hm; omega) _), fun A xs h => key A _ h, key⟩
set_option maxHeartbeats 4000000 in
theorem ch_Read {w0 w : World} {K : List Nat} {g n gp gf : Nat} {st : PlSt} (h : PoA w0 K g n gp gf st w) (hi : PlInv n st) (hk0 : ∀ k ∈ K, w0.heap.size ≤ k) (kind head most : Int) (hmost : most ≤ 9223372036854775807) :
    Calls Tryd.prog 8 #[.pointer (some ⟨gp, 0, none⟩), .int .i64 kind, .int .i64 head, .int .i64 most] w (ChRdR w0 K g n gp gf (chRead n kind head most st) w) := by
  have HP := Lib.hid h
  have HIV := Lib.hid hi
  have HK0 := Lib.hid hk0
  have HMO := Lib.hid hmost
  obtain ⟨R, hR⟩ : ∃ R, R = chRead n kind head most st := ⟨_, rfl⟩
  rw [← hR]
  unfold chRead at hR
  have HR := Lib.hid hR
  clear h hi hk0 hmost hR
  refine (callsIn_wide (n := 10)).1 ?_
  refine callsIn_of_wp_marks Tryd.func8 rfl trivial ?_ rfl
  simp only [Tryd.ntmps8, List.size_toArray, List.length_cons, List.length_nil, Nat.reduceAdd, Nat.reduceSub, Array.replicate_succ, Array.replicate_zero, List.push_toArray, List.append_toArray, List.nil_append, List.cons_append]
  gi_wp2_with fail
  refine in_call (po_Frames HP.out) ?_
  rintro e w2 ⟨v2, rfl, ho, hb⟩
  obtain ⟨gl, cap, rfl, -, -, -⟩ := owns_form ho (pl_flen HP.out)
  have HP2 := Lib.hid (HP.out.byFB hb)
  have HF2 := Lib.hid hb
  have hnil := frames_nil gl st.fs.length cap
  clear ho hb
  have HIS := Lib.hid (fun W => ch_isKind kind W)
  gi_wp2_with fail
  refine in_call (HIS.out w2) ?_
  rintro e w3 ⟨rfl, rfl⟩
  clear hnil HIS
  cases hk : chIs kind with
  | false =>
    obtain rfl : R = (([], [], 2), st) := by rw [HR.out, if_neg (fun h => by rw [hk] at h; cases h.1)]
    clear hk
    gi_wp2
    exact ⟨_, results_tmp3 rfl _ _ _, none, 0, none, 0, rfl, Rd.nil _ _, RdV.nil _ _, Nat.le_refl _, Nat.zero_le _, (fun _ h => by cases h), (fun _ h => by cases h), HP2.out⟩
  | true =>
    by_cases hh : head < 2
    · obtain rfl : R = (([], [], 2), st) := by rw [HR.out, if_neg (fun h => by omega)]
      clear hk
      gi_wp2
      exact ⟨_, results_tmp3 rfl _ _ _, none, 0, none, 0, rfl, Rd.nil _ _, RdV.nil _ _, Nat.le_refl _, Nat.zero_le _, (fun _ h => by cases h), (fun _ h => by cases h), HP2.out⟩
    · have HR2 := Lib.hid (HR.out.trans (if_pos ⟨hk, by omega⟩))
      clear hk HR
      have HCP := Lib.hid (ch_parts gp (w2.heap.size + 1 + 1) kind head most (((w2.alloc (.cells #[.slice none 0 0] 27)).alloc (.cells #[.slice none 0 0] 26)).alloc (.cells #[.int .i64 0] 23)))
      have HV := Lib.hid (chVars_facts w2 gp kind head most)
      have hsz : (((w2.alloc (.cells #[.slice none 0 0] 27)).alloc (.cells #[.slice none 0 0] 26)).alloc (.cells #[.int .i64 0] 23)).heap.size = w2.heap.size + 3 := by simp
      rw [hsz] at HCP
      clear hsz
      gi_wp2_with fail
      refine in_call HCP.out ?_
      rintro e w5 ⟨rfl, rfl⟩
      rw [show chBox5 (((w2.alloc (.cells #[.slice none 0 0] 27)).alloc (.cells #[.slice none 0 0] 26)).alloc (.cells #[.int .i64 0] 23)) gp (w2.heap.size + 1 + 1) kind head most = chVars w2 gp kind head most from rfl]
      obtain ⟨q, hq⟩ : ∃ q, q = w2.heap.size := ⟨_, rfl⟩
      have HQ := Lib.hid hq
      have HP5 := Lib.hid (HP2.out.1.addNew HV.out.1)
      have hkp5 := HP2.out.1.kp HV.out.1
      have HK5 := Lib.hid (HP2.out.2.trans hkp5)
      rw [← hq] at HV ⊢
      generalize chVars w2 gp kind head most = w5 at *
      clear hq HCP hkp5
      gi_wp2
      rw [show q + 1 + 1 = q + 2 from rfl, show q + 3 + 2 = q + 5 from rfl, show q + 3 + 4 = q + 7 from rfl, show q + 3 + 1 = q + 4 from rfl, show q + 3 + 3 = q + 6 from rfl]
      have HKL := Lib.hid HP.out.kl
      have HW5 := Lib.hid (show w.heap.size ≤ w5.heap.size ∧ w.heap.size ≤ q ∧ w5.heap.size = q + 8 from ⟨Nat.le_trans HF2.out.le HV.out.1.le, by rw [HQ.out]; exact HF2.out.le, HV.out.2.1⟩)
      have HN8 := Lib.hid (show n ≤ 32768 from by obtain ⟨F, hD, -⟩ := HP.out.dsk; exact hD.ok.n2)
      have h0q := HP.out.fb.le
      refine wpIn_rangeFunc_two rfl (by omega) (gf := 45) (lb := #[.pointer (some ⟨q + 3, 0, none⟩), .pointer (some ⟨q + 5, 0, none⟩), .pointer (some ⟨q + 7, 0, none⟩), .pointer (some ⟨q + 4, 0, none⟩), .pointer (some ⟨q + 6, 0, none⟩)]) rfl trivial (enters_of Tryd.func45 (by kernel_rfl) rfl)
        (ch_parts1 (10 - 1) (by omega) w0 g n gp gf (q + 3) (q + 5) (q + 7) (q + 4) (q + 6) (q + 2) kind most head st HIV.out HMO.out (by simp)) (fun _ => rfl)
        (ChC K w q) (fun _ _ _ _ => False) (fun _ _ _ _ h k => h.st k) (fun _ _ _ _ _ h _ => h) (fun _ _ _ _ _ _ h hl ho hc => h.put HKL.out (Nat.le_trans HW5.out.1 hl) ho hc) (fun _ _ _ _ _ _ _ h _ _ _ => h) (fun _ _ _ h => h.lt) (fun _ _ _ _ h => h.elim)
        ([q, q + 1] ++ K) ?h0 ?hst (ChB (chT gp gl st.fs.length cap q kind head most (decide (head < 2))) K w n q) (fun _ _ _ _ _ _ _ _ h hl _ ho hc => h.put HKL.out (Nat.le_trans HW5.out.1 hl) ho hc) (fun _ _ _ _ _ h => by obtain ⟨gx, -, h2, -⟩ := h; exact h2.lt) ?hassign ?hbody ?hdone (fun _ _ _ _ _ _ _ _ _ h => h.elim)
      case h0 =>
        intro o1 o2
        have hs : ((w5.alloc o1).alloc o2).heap.size = w5.heap.size + 2 := by simp
        have hq8 := HW5.out.2.2
        have hqw := HW5.out.2.1
        refine ⟨⟨.slice none 0 0, .slice none 0 0, (HV.out.2.2.1.alloc _).alloc _, (HV.out.2.2.2.1.alloc _).alloc _, Own.nil _ _, OwnV.nil _ _ _, (fun k h => by cases h), (fun k h => by cases h)⟩, by simp, by simp, fun k hk => ?_, HK5.out.trans ⟨by rw [hs]; omega, fun b hb => ?_⟩, fun k hk => by simp [hk], fun k hk => ?_, hqw⟩
        · rw [hs]
          simp only [List.mem_cons, List.mem_append, List.not_mem_nil, or_false] at hk
          rcases hk with rfl | rfl | (rfl | rfl) | hk
          · omega
          · omega
          · omega
          · omega
          · have := HKL.out k hk; omega
        · exact (((FB.refl w5).alloc o1).alloc o2).block b (by have := HKL.out b hb; omega)
        · simp only [List.mem_cons, List.mem_append, List.not_mem_nil, or_false] at hk
          rcases hk with rfl | rfl | (rfl | rfl) | hk
          · right; omega
          · right; omega
          · right; omega
          · right; omega
          · exact .inl hk
      case hst =>
        intro o1 o2
        have hs : ((w5.alloc o1).alloc o2).heap.size = w5.heap.size + 2 := by simp
        have hq8 := HW5.out.2.2
        have hqw := HW5.out.2.1
        have hqq := HQ.out
        have hp := HP2.out.1.addNew ((HV.out.1.alloc o1).alloc o2)
        refine ⟨hp.fewer (fun b hb => ?_), (HV.out.2.2.2.2.2.1.alloc _).alloc _, (HV.out.2.2.2.2.2.2.2.1.alloc _).alloc _, (HV.out.2.2.2.2.2.2.2.2.2.alloc _).alloc _, (HV.out.2.2.2.2.2.2.1.alloc _).alloc _, (HV.out.2.2.2.2.2.2.2.2.1.alloc _).alloc _, (HV.out.2.2.2.2.1.alloc _).alloc _, fun b hb hm => ?_, fun b hb => ?_⟩
        · rw [hs]
          simp only [List.mem_cons, List.mem_append, List.not_mem_nil, or_false] at hb
          rw [List.mem_append, List.mem_range'_1]
          rcases hb with (rfl | rfl | rfl | rfl | rfl | rfl) | rfl | rfl | (rfl | rfl) | hb
          all_goals first | (left; omega) | exact .inr hb
        · simp only [List.mem_cons, List.mem_append, List.not_mem_nil, or_false] at hb hm
          have h2q : q + 2 ≤ b ∧ b ≤ q + 7 := by omega
          rcases hm with h | h | (h | h) | h
          · omega
          · omega
          · omega
          · omega
          · have := HKL.out b h; omega
        · simp only [List.mem_cons, List.mem_append, List.not_mem_nil, or_false] at hb
          have hmk : b ∈ K → w0.heap.size ≤ b := fun h => HK0.out b h
          rcases hb with (rfl | rfl | rfl | rfl | rfl | rfl) | rfl | rfl | (rfl | rfl) | hb
          all_goals first | omega | exact hmk hb
      case hassign =>
        intro l pre x K1 W N hC hX hN
        have hT := Turns.of (TS.of ((FB.refl W).alloc (.cells #[.int .i64 x.pg, .slice x.A x.b.length x.c] 70))) hC.lt
        have hbx : ChB (chT gp gl st.fs.length cap q kind head most (decide (head < 2))) K w n q pre x (List.range' W.heap.size ((W.alloc (.cells #[.int .i64 x.pg, .slice x.A x.b.length x.c] 70)).heap.size - W.heap.size) ++ K1) { tmps := chT gp gl st.fs.length cap q kind head most (decide (head < 2)) (.pointer (some ⟨W.heap.size, 0, none⟩)) (.agg #[.int .i64 x.pg, .slice x.A x.b.length x.c]), defers := [] } (W.alloc (.cells #[.int .i64 x.pg, .slice x.A x.b.length x.c] 70)) := by
          have hq0 := hC.lt q hC.q0
          have hq1 := hC.lt (q + 1) hC.q1
          obtain ⟨h1, h2, h3, h4, h5, h6, h7⟩ := hX
          refine ⟨W.heap.size, rfl, (hC.st ⟨hT.ts.size, fun b hb => (((FB.refl W).alloc _).block b (hC.lt b hb))⟩).more hT hC.kp.1, heap_alloc_new W _, ?_, by omega, by omega, Rd.alloc h1 _, h2, h6, h7⟩
          refine List.mem_append_left _ (List.mem_range'_1.2 ⟨Nat.le_refl _, by simp⟩)
        have hNN := Lib.hid (hN _ _ _ ((KeepsOthers.alloc W _).from _) hT hbx)
        clear hN hbx hT
        simp only [ChX.enc]
        gi_wp2
        exact hNN.out
      case hbody =>
        rintro l pre x K1 a' W ⟨gx, rfl, hC, hx, hgk, hn0, hn1, hrd, hl1, hl2, hl3⟩
        obtain ⟨v, u, hb1, hb2, ho, hop, hi1, hi2⟩ := hC.ex
        have HC := Lib.hid hC
        have HX := Lib.hid (And.intro hx (And.intro hgk (And.intro hn0 hn1)))
        have HRD := Lib.hid hrd
        have HL1 := Lib.hid hl1
        have HLN := Lib.hid (show (pre.flatMap (·.b)).length ≤ 20000000 ∧ pre.length ≤ 4096 from by
          have := HN8.out
          have h4 : pre.length ≤ 4096 := by omega
          exact ⟨by have := flat_len hl3 h4; omega, h4⟩)
        have HQ0 := Lib.hid (show ChQ K1 w5.heap.size q v u W v (pre.flatMap (·.b)) u (pre.map fun x => .int .i64 x.pg) W.drew from ⟨TS.of (FB.refl W).drew, KeepsOthers.drew W, (Below.refl _ _).drew, hb1, hb2, ho, hop, fun k h => .inl (hi1 k h), fun k h => .inl (hi2 k h)⟩)
        clear hC hx hgk hn0 hn1 hrd hl1 hl2 hl3 hb1 hb2 ho hop hi1 hi2
        simp only [chT]
        refine wpIn_block ?_
        refine regionIn_schT (E := KP [q, q + 1, gx]) ((0, true) :: (1, true) :: (2, true) :: (4, true) :: (5, true) :: (6, true) :: []) (.two ((3, false) :: (7, false) :: []) .leaf ((7, false) :: (3, false) :: []) .leaf) ((8, false) :: (9, false) :: (10, false) :: []) (by kernel_rfl) (KP.refl _) (fun _ _ _ h k => KP.trans h k) (fun _ _ d _ _ h => by cases d <;> exact h) (by kernel_rfl) ?hqu ?hqo ?_
        case hqu =>
          intro o ho
          simp only [List.mem_toArray, List.mem_cons, List.not_mem_nil, or_false] at ho
          rcases ho with rfl | rfl | rfl | rfl | rfl | rfl | rfl | rfl | rfl | rfl | rfl
          all_goals first | exact quiet_load rfl | exact quiet_fieldAddr rfl | exact quiet_append rfl | exact quiet_buildSlice rfl | exact quiet_store rfl
        case hqo => exact fun ⟨a, w, h⟩ => h
        intro ops hops0
        have hops := Lib.hid hops0
        clear hops0
        have HX0 := Lib.hid (show W.drew.heap[gx]? = some (.cells #[.int .i64 x.pg, .slice x.A x.b.length x.c] 70 (0, 0)) from HX.out.1)
        have HRD0 := Lib.hid (show Rd W.drew x.A x.b from HRD.out)
        generalize W.drew = w9 at *
        have HT := Lib.hid (fun (W' : World) (h : KP [q, q + 1, gx] w9 W') => show W'.cell? ⟨q, 0, none⟩ = some v ∧ W'.cell? ⟨q + 1, 0, none⟩ = some u ∧ W'.cell? ⟨gx, 0, none⟩ = some (.int .i64 x.pg) ∧ W'.cell? ⟨gx, 1, none⟩ = some (.slice x.A x.b.length x.c) from
          ⟨(boxed_kp HQ0.out.x1 h (by simp)).cell, (boxed_kp HQ0.out.x2 h (by simp)).cell, (row2 ((h.2 gx (by simp)).trans HX0.out)).1, (row2 ((h.2 gx (by simp)).trans HX0.out)).2⟩)
        repeat (refine sch_take (o := ?_) (v := ?_) (a' := ?_) (at_of hops.out ?_) ?_ (fun W hW => ?_) ?_ ?_; rotate_left 3; (focus (simp only [List.getElem?_toArray, List.getElem?_cons_zero, List.getElem?_cons_succ]; rfl)); (focus (rw [hops.out]; rfl)); (focus (obtain ⟨q0, q1, q2, q3⟩ := HT.out W hW; go_simp; with_reducible rfl)); (focus (simp only [Act.put, List.setIfInBounds_toArray, List.set_cons_zero, List.set_cons_succ]; rfl)))
        refine sch_done (schB_two ?_ ?_)
        · skip
          refine sch_append_bytes (o := ?_) (at_of hops.out ?_) ?_ (.tmp 35) (.tmp 37) ?_ q v (pre.flatMap (·.b)) HQ0.out.ob ?_ x.A x.b.length x.c x.b rfl ?_ HRD0.out (by have := HLN.out; have := HL1.out; omega) (Nat.le_of_lt HQ0.out.x1.lt) ?_
          rotate_left 1
          (focus (simp only [List.getElem?_toArray, List.getElem?_cons_zero, List.getElem?_cons_succ]; rfl))
          (focus (rw [hops.out]; rfl))
          (focus rfl)
          (focus rfl)
          (focus rfl)
          intro v1 w10 ho hg hn
          have HQ1 := Lib.hid (HQ0.out.apB ho hg hn)
          refine ⟨?_, ?_⟩
          · exact kp_row hg (fun b hb => by
              simp only [List.mem_cons, List.not_mem_nil, or_false] at hb
              rcases hb with rfl | rfl | rfl
              · exact ⟨HQ0.out.x1.lt, HQ0.out.x1.not_row (by decide) HQ0.out.ob⟩
              · exact ⟨HQ0.out.x2.lt, HQ0.out.x2.not_row (by decide) HQ0.out.ob⟩
              · exact ⟨(Array.getElem?_eq_some_iff.1 HX0.out).1, cells_not_row HX0.out (by decide) HQ0.out.ob⟩)
          intro a' ha'
          simp only [Act.put, List.setIfInBounds_toArray, List.set_cons_zero, List.set_cons_succ] at ha'
          subst ha'
          (refine sch_run (o := ?_) (v := ?_) (a' := ?_) (w' := ?_) (at_of hops.out ?_) ?_ ?_ ?_ ?_ ?_; rotate_left 4; (focus (simp only [List.getElem?_toArray, List.getElem?_cons_zero, List.getElem?_cons_succ]; rfl)); (focus (rw [hops.out]; rfl)); (focus (go_simp; constructor <;> with_reducible rfl)); (focus (exact kp_alloc _ _ (fun b hb => by
            simp only [List.mem_cons, List.not_mem_nil, or_false] at hb
            rcases hb with rfl | rfl | rfl
            · exact HQ1.out.x1.lt
            · exact HQ1.out.x2.lt
            · exact Nat.lt_of_lt_of_le (Array.getElem?_eq_some_iff.1 HX.out.1).1 HQ1.out.ts.size))); (focus (simp only [Act.put, List.setIfInBounds_toArray, List.set_cons_zero, List.set_cons_succ]; rfl)))
          have HQ2 := Lib.hid (HQ1.out.alloc (.cells #[.int .i64 x.pg] 3))
          refine sch_done (schB_leaf ?_)
          refine sch_append (o := ?_) (at_of hops.out ?_) ?_ (.tmp 39) (.tmp 42) 26 3 8 (.int .i64 0) Tryd.underlying26 info_int rfl ?_ q u _ HQ2.out.op ?_ (some ⟨w10.heap.size, 0, none⟩) 1 1 [.int .i64 x.pg] rfl ?_ (RdV.lit w10 [.int .i64 x.pg] 3 rfl) (by simp [Value.oneCell']) (by simp [maxLen]; have := HLN.out; omega) (by simp; have := HLN.out; omega) (Nat.le_of_lt HQ2.out.x1.lt) ?_
          rotate_left 1
          (focus (simp only [List.getElem?_toArray, List.getElem?_cons_zero, List.getElem?_cons_succ]; rfl))
          (focus (rw [hops.out]; rfl))
          (focus rfl)
          (focus rfl)
          (focus rfl)
          intro u1 w13 ho hg hn
          have HQ9 := Lib.hid (HQ2.out.apP ho hg hn)
          refine ⟨trivial, ?_⟩
          intro a' ha'
          simp only [Act.put, List.setIfInBounds_toArray, List.set_cons_zero, List.set_cons_succ] at ha'
          subst ha'
          have e1 := HQ9.out.x1.cell
          have e2 := HQ9.out.x1.frozen
          have HE3 := Lib.hid (boxed_kp (K := [q + 1]) HQ9.out.x2 (W' := w13.setCell ⟨q, 0, none⟩ v1) ⟨(TB.set (g := q) w13 0 v1).le, fun b hb => heap_setCell_other _ _ _ _ (by simp at hb; subst hb; simp)⟩ (by simp))
          refine sch_store (o := ?_) (at_of hops.out ?_) ?_ 27 (.tmp 11) (.tmp 38) ?_ ?_ ⟨q, 0, none⟩ v1 ?_ ?_ ?_ trivial ?_
          rotate_left 1
          (focus (simp only [List.getElem?_toArray, List.getElem?_cons_zero, List.getElem?_cons_succ]; rfl))
          (focus (rw [hops.out]; rfl))
          (focus rfl)
          (focus rfl)
          (focus rfl)
          (focus rfl)
          (focus (obtain ⟨A1, c1, hv1, -⟩ := OwnV.form HQ9.out.ob; rw [hv1]; go_simp))
          have e3 := HE3.out.cell
          have e4 := HE3.out.frozen
          refine sch_store (o := ?_) (at_of hops.out ?_) ?_ 26 (.tmp 12) (.tmp 43) ?_ ?_ ⟨q + 1, 0, none⟩ u1 ?_ ?_ ?_ trivial ?_
          rotate_left 1
          (focus (simp only [List.getElem?_toArray, List.getElem?_cons_zero, List.getElem?_cons_succ]; rfl))
          (focus (rw [hops.out]; rfl))
          (focus rfl)
          (focus rfl)
          (focus rfl)
          (focus rfl)
          (focus (obtain ⟨A1, c1, hv1, -⟩ := OwnV.form HQ9.out.op; rw [hv1]; go_simp))
          exact sch_done (HC.out.next x HKL.out HQ9.out)
        · skip
          (refine sch_run (o := ?_) (v := ?_) (a' := ?_) (w' := ?_) (at_of hops.out ?_) ?_ ?_ ?_ ?_ ?_; rotate_left 4; (focus (simp only [List.getElem?_toArray, List.getElem?_cons_zero, List.getElem?_cons_succ]; rfl)); (focus (rw [hops.out]; rfl)); (focus (go_simp; constructor <;> with_reducible rfl)); (focus (exact kp_alloc _ _ (fun b hb => by
            simp only [List.mem_cons, List.not_mem_nil, or_false] at hb
            rcases hb with rfl | rfl | rfl
            · exact HQ0.out.x1.lt
            · exact HQ0.out.x2.lt
            · exact (Array.getElem?_eq_some_iff.1 HX0.out).1))); (focus (simp only [Act.put, List.setIfInBounds_toArray, List.set_cons_zero, List.set_cons_succ]; rfl)))
          have HQ1 := Lib.hid (HQ0.out.alloc (.cells #[.int .i64 x.pg] 3))
          have HX1 := Lib.hid (show (w9.alloc (.cells #[.int .i64 x.pg] 3)).heap[gx]? = some (.cells #[.int .i64 x.pg, .slice x.A x.b.length x.c] 70 (0, 0)) from (((FB.refl w9).alloc _).block gx (Array.getElem?_eq_some_iff.1 HX0.out).1).trans HX0.out)
          have HRD1 := Lib.hid (HRD0.out.alloc (.cells #[.int .i64 x.pg] 3))
          have HNW := Lib.hid (heap_alloc_new w9 (.cells #[.int .i64 x.pg] 3))
          have HWS := Lib.hid (show w9.heap.size < (w9.alloc (.cells #[.int .i64 x.pg] 3)).heap.size from by simp)
          obtain ⟨gn, hgn⟩ : ∃ gn, gn = w9.heap.size := ⟨_, rfl⟩
          rw [← hgn] at HNW HWS ⊢
          generalize w9.alloc (.cells #[.int .i64 x.pg] 3) = wb at *
          clear hgn
          refine sch_append_bytes (o := ?_) (at_of hops.out ?_) ?_ (.tmp 35) (.tmp 37) ?_ q v (pre.flatMap (·.b)) HQ1.out.ob ?_ x.A x.b.length x.c x.b rfl ?_ HRD1.out (by have := HLN.out; have := HL1.out; omega) (Nat.le_of_lt HQ1.out.x1.lt) ?_
          rotate_left 1
          (focus (simp only [List.getElem?_toArray, List.getElem?_cons_zero, List.getElem?_cons_succ]; rfl))
          (focus (rw [hops.out]; rfl))
          (focus rfl)
          (focus rfl)
          (focus rfl)
          intro v1 w10 ho hg hn
          have HQ2 := Lib.hid (HQ1.out.apB ho hg hn)
          refine ⟨?_, ?_⟩
          · exact kp_row hg (fun b hb => by
              simp only [List.mem_cons, List.not_mem_nil, or_false] at hb
              rcases hb with rfl | rfl | rfl
              · exact ⟨HQ1.out.x1.lt, HQ1.out.x1.not_row (by decide) HQ1.out.ob⟩
              · exact ⟨HQ1.out.x2.lt, HQ1.out.x2.not_row (by decide) HQ1.out.ob⟩
              · exact ⟨(Array.getElem?_eq_some_iff.1 HX1.out).1, cells_not_row HX1.out (by decide) HQ1.out.ob⟩)
          intro a' ha'
          simp only [Act.put, List.setIfInBounds_toArray, List.set_cons_zero, List.set_cons_succ] at ha'
          subst ha'
          have HNX := Lib.hid (show RdV w10 (some ⟨gn, 0, none⟩) [.int .i64 x.pg] from fun i hi => by
            obtain rfl : i = 0 := by simp at hi; omega
            refine ⟨gn, 0, rfl, ?_⟩
            rw [cell_of_row _ _ _ #[.int .i64 x.pg] 3 (0, 0) ((hg.block gn HWS.out (cells_not_row HNW.out (by decide) HQ1.out.ob)).trans HNW.out)]
            rfl)
          refine sch_done (schB_leaf ?_)
          refine sch_append (o := ?_) (at_of hops.out ?_) ?_ (.tmp 39) (.tmp 42) 26 3 8 (.int .i64 0) Tryd.underlying26 info_int rfl ?_ q u _ HQ2.out.op ?_ (some ⟨gn, 0, none⟩) 1 1 [.int .i64 x.pg] rfl ?_ HNX.out (by simp [Value.oneCell']) (by simp [maxLen]; have := HLN.out; omega) (by simp; have := HLN.out; omega) (Nat.le_of_lt HQ2.out.x1.lt) ?_
          rotate_left 1
          (focus (simp only [List.getElem?_toArray, List.getElem?_cons_zero, List.getElem?_cons_succ]; rfl))
          (focus (rw [hops.out]; rfl))
          (focus rfl)
          (focus rfl)
          (focus rfl)
          intro u1 w13 ho hg hn
          have HQ9 := Lib.hid (HQ2.out.apP ho hg hn)
          refine ⟨trivial, ?_⟩
          intro a' ha'
          simp only [Act.put, List.setIfInBounds_toArray, List.set_cons_zero, List.set_cons_succ] at ha'
          subst ha'
          have e1 := HQ9.out.x1.cell
          have e2 := HQ9.out.x1.frozen
          have HE3 := Lib.hid (boxed_kp (K := [q + 1]) HQ9.out.x2 (W' := w13.setCell ⟨q, 0, none⟩ v1) ⟨(TB.set (g := q) w13 0 v1).le, fun b hb => heap_setCell_other _ _ _ _ (by simp at hb; subst hb; simp)⟩ (by simp))
          refine sch_store (o := ?_) (at_of hops.out ?_) ?_ 27 (.tmp 11) (.tmp 38) ?_ ?_ ⟨q, 0, none⟩ v1 ?_ ?_ ?_ trivial ?_
          rotate_left 1
          (focus (simp only [List.getElem?_toArray, List.getElem?_cons_zero, List.getElem?_cons_succ]; rfl))
          (focus (rw [hops.out]; rfl))
          (focus rfl)
          (focus rfl)
          (focus rfl)
          (focus rfl)
          (focus (obtain ⟨A1, c1, hv1, -⟩ := OwnV.form HQ9.out.ob; rw [hv1]; go_simp))
          have e3 := HE3.out.cell
          have e4 := HE3.out.frozen
          refine sch_store (o := ?_) (at_of hops.out ?_) ?_ 26 (.tmp 12) (.tmp 43) ?_ ?_ ⟨q + 1, 0, none⟩ u1 ?_ ?_ ?_ trivial ?_
          rotate_left 1
          (focus (simp only [List.getElem?_toArray, List.getElem?_cons_zero, List.getElem?_cons_succ]; rfl))
          (focus (rw [hops.out]; rfl))
          (focus rfl)
          (focus rfl)
          (focus rfl)
          (focus rfl)
          (focus (obtain ⟨A1, c1, hv1, -⟩ := OwnV.form HQ9.out.op; rw [hv1]; go_simp))
          exact sch_done (HC.out.next x HKL.out HQ9.out)
      case hdone =>
        intro D xs K1 W2 W hD hdn hT hC hdf hDK
        have HC := Lib.hid hC
        obtain ⟨hp, he, hxs, hnk⟩ := hdn
        have her : Boxed W (q + 2) 23 (.int .i64 (chRd n kind most (chFuel most) 0 [] head st).1.2) := (hT.ts.block (q + 2) he.lt hnk).trans he
        have HGE := Lib.hid (show ∀ k ∈ K1, w0.heap.size ≤ k from fun k hk => by
          rcases HC.out.ge k hk with h | h
          · exact HK0.out k h
          · omega)
        have HPW := Lib.hid (show PoA w0 K1 g n gp gf (chRd n kind most (chFuel most) 0 [] head st).2 W from ((PoA.turns (I := [q + 2]) hp hT HGE.out).fewer (fun b hb => List.mem_append_right _ hb)))
        have HDF := Lib.hid hdf
        have HXS := Lib.hid hxs
        have ec := her.cell
        clear hC hp he hT hnk her hdf
        generalize chRd n kind most (chFuel most) 0 [] head st = S at *
        obtain ⟨⟨sl, sc⟩, st2⟩ := S
        simp only at HR2 HPW ec HXS
        simp only [chT]
        by_cases hsc : sc = 0
        · subst hsc
          have HR3 := Lib.hid (HR2.out.trans (if_pos rfl))
          obtain ⟨v, u, hb1, hb2, ho, hop, hi1, hi2⟩ := HC.out.ex
          obtain ⟨A, ca, rfl, o1, o2, o3, o4⟩ := Own.form ho
          obtain ⟨B, cb, rfl, p1, p2, p3, p4⟩ := OwnV.form hop
          have hla : (xs.flatMap (·.b)).length = (sl.flatMap (·.2)).length := by rw [← HXS.out]; simp [ChX.pl, List.flatMap_map]
          have hlb : (xs.map fun x : ChX => Value.int .i64 x.pg).length = (sl.map (·.1)).length := by rw [← HXS.out]; simp
          obtain ⟨la, hlaa⟩ : ∃ la, la = (sl.flatMap (·.2)).length := ⟨_, rfl⟩
          obtain ⟨lb, hlbb⟩ : ∃ lb, lb = (sl.map (·.1)).length := ⟨_, rfl⟩
          rw [hla, ← hlaa] at hb1 o1 hi1
          rw [hlb, ← hlbb] at hb2 p1 hi2
          have x1 := boxed_cell hb1
          have x2 := boxed_cell hb2
          have HO := Lib.hid (And.intro o1 (And.intro o2 (And.intro o3 o4)))
          have HPQ := Lib.hid (And.intro p1 (And.intro p2 (And.intro p3 p4)))
          have HLA := Lib.hid (And.intro hlaa hlbb)
          have HHI := Lib.hid (And.intro hi1 hi2)
          clear hb1 hb2 ho hop hla hlb hlaa hlbb o1 o2 o3 o4 p1 p2 p3 p4 hi1 hi2 HR2
          gi_wp2
          gi_quiet (fail)
          all_goals gi_wp2
          have HZ := ch_leave HPW.out HC.out HDF.out hDK HGE.out HKL.out (nq := nq) (Nat.le_trans HW5.out.1 hD)
          refine ⟨by simp, .inl ⟨_, _, rfl, run_takeDeferred (w := W.drewN nq) HDF.out, ?_⟩⟩
          obtain ⟨z1, z2, z3, z4⟩ := HZ
          refine ⟨_, results_tmp3 rfl _ _ _, A, ca, B, cb, ?_, ?_, ?_, ?_, HO.out.2.1, fun ad ha => ?_, fun ad ha => ?_, ?_, z2⟩
          · rw [HR3.out, HLA.out.1, HLA.out.2]
            rfl
          · rw [HR3.out]
            have := z3 _ _ HO.out.2.2.1
            have e : (xs.flatMap (·.b)) = sl.flatMap (·.2) := by rw [← HXS.out]; simp [ChX.pl, List.flatMap_map]
            rw [e] at this
            exact this
          · rw [HR3.out]
            have := z4 _ _ HPQ.out.2.2.1
            have e : (xs.map fun x : ChX => Value.int .i64 x.pg) = (sl.map (·.1)).map (.int .i64) := by rw [← HXS.out]; simp [ChX.pl]
            rw [e] at this
            exact this
          · rw [HR3.out]
            have := HO.out.1
            rw [HLA.out.1] at this
            exact this
          · exact Nat.le_trans HC.out.wq (HO.out.2.2.2 ad ha).1
          · exact Nat.le_trans HC.out.wq (HPQ.out.2.2.2 ad ha).1
          · rw [HR3.out]
            refine z1.fewer (fun b hb => ?_)
            rcases List.mem_append.1 hb with hb | hb
            · rcases List.mem_append.1 hb with hb | hb
              · cases A with
                | none => simp [optBlk] at hb
                | some ad => simp [optBlk] at hb; subst hb; exact HHI.out.1 _ rfl
              · cases B with
                | none => simp [optBlk] at hb
                | some ad => simp [optBlk] at hb; subst hb; exact HHI.out.2 _ rfl
            · exact HC.out.sub b hb
        · have hsb : (sc != 0) = true := by simpa using hsc
          have HR3 := Lib.hid (HR2.out.trans (if_neg hsc))
          clear hsc HR2
          gi_wp2
          gi_quiet (fail)
          all_goals gi_wp2
          have HZ := ch_leave HPW.out HC.out HDF.out hDK HGE.out HKL.out (nq := nq) (Nat.le_trans HW5.out.1 hD)
          refine ⟨by simp, .inl ⟨_, _, rfl, run_takeDeferred (w := W.drewN nq) HDF.out, ?_⟩⟩
          obtain ⟨z1, z2, z3, z4⟩ := HZ
          refine ⟨_, results_tmp3 rfl _ _ _, none, 0, none, 0, ?_, ?_, ?_, ?_, Nat.zero_le _, (fun _ h => by cases h), (fun _ h => by cases h), ?_, z2⟩
          · rw [HR3.out]; rfl
          · rw [HR3.out]; exact Rd.nil _ _
          · rw [HR3.out]; exact RdV.nil _ _
          · rw [HR3.out]; exact Nat.le_refl _
          · rw [HR3.out]; exact z1.fewer (fun b hb => HC.out.sub b (by simpa [optBlk] using hb))
end Go.Proofs.YtoidlmhebnlnbaaDoor
/- chain, plain: a pool without pins is never full; what was written is read. -/
set_option linter.unusedVariables false
set_option linter.unusedSimpArgs false
namespace Go.Proofs.YtoidlmhebnlnbaaDoor

section
variable {n : Nat} {st st' : PlSt}
/-- No page is pinned. -/
def PlNP (st : PlSt) : Prop := ∀ k : Nat, plN st k = 0
theorem PlNP.pins (h : PlNP st) (hi : PlInv n st) (i : Nat) : (st.fs.getD i frm0).pins = 0 := by
  cases hb : (st.fs.getD i frm0).is with
  | false => rw [hi.off i hb]; rfl
  | true =>
    obtain ⟨k, hk, -⟩ := hi.pg i hb
    have := h k
    rw [plN_hit (hi.hit hb hk)] at this
    exact this
theorem PlNP.eq (h : PlNP st) (e : PlEq st st') : PlNP st' := fun k => ((e k).2).trans (h k)
theorem plRound_np : ∀ (m : Nat) (st : PlSt), PlInv n st → PlNP st → st.fs.countP (·.used) < m → (plRound n m st).1.1 ≠ none := by
  intro m
  induction m with
  | zero => intro st _ _ h; omega
  | succ m ih =>
    intro st h hp hc
    rw [plRound]
    have hn := plNext_lt h
    rw [if_neg (by rw [hp.pins h]; decide)]
    split
    · rename_i hu
      obtain ⟨h1, h2⟩ := h.mark h.hand { (st.fs.getD st.hand frm0) with used := false } (plNext st) hn rfl rfl rfl rfl (fun a => by have := h.off st.hand a; rw [this]; rfl) (fun a => a)
      refine ih _ h1 (hp.eq h2) ?_
      have e : st.fs.getD st.hand frm0 = st.fs[st.hand]'h.hand := by rw [List.getD_eq_getElem?_getD, List.getElem?_eq_getElem h.hand]; rfl
      show (st.fs.set st.hand _).countP _ < m
      rw [List.countP_set h.hand]
      rw [e] at hu
      rw [if_pos hu, if_neg (by simp)]
      have : 0 < st.fs.countP (·.used) := List.countP_pos_iff.2 ⟨_, List.getElem_mem h.hand, hu⟩
      omega
    · obtain ⟨s1, s2, s3, -⟩ := h.evict h.hand (by rw [hp.pins h]; decide) (plNext st) hn
      rw [if_pos s1]
      simp
theorem plRoom_np (h : PlInv n st) (hp : PlNP st) : ∃ i, (plRoom n st).1.1 = some i := by
  refine Option.ne_none_iff_exists'.1 ?_
  unfold plRoom
  split
  · simp
  · refine plRound_np _ st h hp ?_
    have h1 : st.fs.countP (·.used) ≤ st.fs.length := List.countP_le_length
    have h2 := h.hand
    omega
theorem plGet_np (h : PlInv n st) (hp : PlNP st) {k : Nat} (hk : k < n / 8) : (plGet n st k).1.2 = 0 ∧ plGetB n st k = plV st k ∧ PlInv n (plGet n st k).2 ∧ PlEq st (plGet n st k).2 := by
  obtain ⟨h1, h2, h3⟩ := plGet_ok h hk
  rcases h3 with ⟨e, hf⟩ | ⟨i, e1, e2, e3⟩
  · exfalso
    obtain ⟨i, hr⟩ := plRoom_np h hp
    obtain ⟨q1, -⟩ := plRoom_ok h
    rcases hrr : plRoom n st with ⟨⟨so, se⟩, st1⟩
    rw [hrr] at hr q1
    simp only at hr
    subst hr
    rw [plGet_load (pgOut_no hk) hf hrr, load_pg q1.fuse hk] at e
    simp at e
  · exact ⟨by rw [e1], e3, h1, h2⟩
theorem plPut_np (h : PlInv n st) (hp : PlNP st) {k : Nat} (hk : k < n / 8) {xs : List Byte} (hl : xs.length = 4096) : (plPut n st k xs).1 = 0 ∧ PlInv n (plPut n st k xs).2 ∧ PlNP (plPut n st k xs).2 ∧ ∀ k' : Nat, plV (plPut n st k xs).2 k' = if k' = k then xs else plV st k' := by
  obtain ⟨h1, h2, h3⟩ := plPut_ok h hk hl
  rcases h3 with ⟨e, hf, he⟩ | ⟨e, -, he⟩
  · exfalso
    obtain ⟨i, hr⟩ := plRoom_np h hp
    rcases hrr : plRoom n st with ⟨⟨so, se⟩, st1⟩
    rw [hrr] at hr
    simp only at hr
    subst hr
    rw [plPut_new (by rintro (a | a); exact pgOut_no hk a; exact a hl) hf hrr] at e
    simp at e
  · exact ⟨e, h1, fun k' => ((he k').2).trans (hp k'), fun k' => (he k').1⟩
theorem chWr_np : ∀ (ps : List Int) (xs : List (List Byte)) (st : PlSt), PlInv n st → PlNP st → (∀ p ∈ ps, 0 ≤ p ∧ p.toNat < n / 8) → ps.Nodup → (∀ x ∈ xs, x.length = 4096) → ps.length = xs.length →
    (chWr n ps xs st).1 = 0 ∧ PlInv n (chWr n ps xs st).2 ∧ PlNP (chWr n ps xs st).2 ∧ (∀ i (hi : i < ps.length) (hx : i < xs.length), plV (chWr n ps xs st).2 ps[i].toNat = xs[i]) ∧ ∀ k : Nat, (k : Int) ∉ ps → plV (chWr n ps xs st).2 k = plV st k := by
  intro ps
  induction ps with
  | nil => intro xs st h hp _ _ _ hl; cases xs with
    | nil => exact ⟨rfl, h, hp, (fun i hi => by simp at hi), fun _ _ => rfl⟩
    | cons x xs => cases hl
  | cons p ps ih =>
    intro xs st h hp hr hn hx hl
    cases xs with
    | nil => cases hl
    | cons x xs =>
      obtain ⟨k, rfl⟩ : ∃ k : Nat, p = (k : Int) := ⟨p.toNat, by have := (hr p (by simp)).1; omega⟩
      have hk : k < n / 8 := by have := (hr k (by simp)).2; simpa using this
      obtain ⟨e, h1, h2, h3⟩ := plPut_np h hp hk (hx x (by simp))
      rw [chWr, if_pos e]
      obtain ⟨a, b, c, d, f⟩ := ih xs _ h1 h2 (fun q hq => hr q (by simp [hq])) (List.nodup_cons.1 hn).2 (fun y hy => hx y (by simp [hy])) (by simpa using hl)
      refine ⟨a, b, c, fun i hi hx' => ?_, fun k' hk' => ?_⟩
      · cases i with
        | zero =>
          simp only [List.getElem_cons_zero, Int.toNat_natCast]
          rw [f k (List.nodup_cons.1 hn).1, h3 k, if_pos rfl]
        | succ i =>
          simp only [List.getElem_cons_succ]
          exact d i (by simpa using hi) (by simpa using hx')
      · simp only [List.mem_cons, not_or] at hk'
        rw [f k' hk'.2, h3 k', if_neg (by have := hk'.1; omega)]
end
end Go.Proofs.YtoidlmhebnlnbaaDoor
/- chain, plain: reading what stands there. -/
set_option linter.unusedVariables false
set_option linter.unusedSimpArgs false
namespace Go.Proofs.YtoidlmhebnlnbaaDoor

/-- The fields of a body. -/
theorem chBody_fields {ps : List Int} {b : List Byte} {i : Nat} (h0 : 0 ≤ chNext ps i) (h1 : chNext ps i ≤ 4294967295) :
    ((chNx (pgPad (chBody ps b i)) : Nat) : Int) = chNext ps i ∧ chLn (pgPad (chBody ps b i)) = (chPart b i).length ∧ chBs (pgPad (chBody ps b i)) = chPart b i ∧ ∀ x ∈ chRest (pgPad (chBody ps b i)), x = 0#8 := by
  have hl := chPart_le b i
  have e : pgPad (chBody ps b i) = oword 4 (BitVec.ofInt 64 (chNext ps i)) ++ (oword 2 (BitVec.ofNat 64 (chPart b i).length) ++ (chPart b i ++ List.replicate (4080 - (chBody ps b i).length) 0#8)) := by
    unfold pgPad; rw [show chBody ps b i = oword 4 (BitVec.ofInt 64 (chNext ps i)) ++ oword 2 (BitVec.ofNat 64 (chPart b i).length) ++ chPart b i from rfl]; simp
  generalize List.replicate (4080 - (chBody ps b i).length) 0#8 = z at e
  obtain ⟨m, hz⟩ : ∃ m, pgPad (chBody ps b i) = oword 4 (BitVec.ofInt 64 (chNext ps i)) ++ (oword 2 (BitVec.ofNat 64 (chPart b i).length) ++ (chPart b i ++ List.replicate m 0#8)) := by
    refine ⟨4080 - (chBody ps b i).length, ?_⟩
    unfold pgPad; rw [show chBody ps b i = oword 4 (BitVec.ofInt 64 (chNext ps i)) ++ oword 2 (BitVec.ofNat 64 (chPart b i).length) ++ chPart b i from rfl]; simp
  rw [hz]
  have l4 : (oword 4 (BitVec.ofInt 64 (chNext ps i))).length = 4 := oword_len _ _
  have l2 : (oword 2 (BitVec.ofNat 64 (chPart b i).length)).length = 2 := oword_len _ _
  have t4 : (oword 4 (BitVec.ofInt 64 (chNext ps i)) ++ (oword 2 (BitVec.ofNat 64 (chPart b i).length) ++ (chPart b i ++ List.replicate m 0#8))).take 4 = oword 4 (BitVec.ofInt 64 (chNext ps i)) := List.take_left' l4
  have d4 : (oword 4 (BitVec.ofInt 64 (chNext ps i)) ++ (oword 2 (BitVec.ofNat 64 (chPart b i).length) ++ (chPart b i ++ List.replicate m 0#8))).drop 4 = oword 2 (BitVec.ofNat 64 (chPart b i).length) ++ (chPart b i ++ List.replicate m 0#8) := List.drop_left' l4
  have d6 : (oword 4 (BitVec.ofInt 64 (chNext ps i)) ++ (oword 2 (BitVec.ofNat 64 (chPart b i).length) ++ (chPart b i ++ List.replicate m 0#8))).drop 6 = chPart b i ++ List.replicate m 0#8 := by
    rw [← List.append_assoc]; exact List.drop_left' (by rw [List.length_append, l4, l2])
  have hln : chLn (oword 4 (BitVec.ofInt 64 (chNext ps i)) ++ (oword 2 (BitVec.ofNat 64 (chPart b i).length) ++ (chPart b i ++ List.replicate m 0#8))) = (chPart b i).length := by
    unfold chLn
    rw [d4, List.take_left' l2, pg_xword 2 _ (by omega), BitVec.toNat_ofNat]
    omega
  refine ⟨?_, hln, ?_, ?_⟩
  · unfold chNx
    rw [t4, pg_xword 4 _ (by omega)]
    have := nb_ofInt (n := 64) (chNext ps i) h0 (by omega)
    unfold nb at this
    omega
  · unfold chBs; rw [hln, d6]; exact List.take_left' rfl
  · intro x hx
    unfold chRest at hx
    rw [hln, ← List.drop_drop, d6, List.drop_left' rfl] at hx
    exact List.eq_of_mem_replicate hx
theorem chN_pos (b : List Byte) : 1 ≤ chN b := by unfold chN; omega
theorem chPart_full {b : List Byte} {i : Nat} (h : i + 1 < chN b) : (chPart b i).length = 4074 := by
  unfold chN at h
  unfold chPart
  rw [List.length_take, List.length_drop]
  omega
theorem chPart_last {b : List Byte} {i : Nat} (h : i < chN b) (h0 : 0 < i) : (chPart b i).length ≠ 0 := by
  unfold chN at h
  unfold chPart
  rw [List.length_take, List.length_drop]
  omega
theorem chPart_out {b : List Byte} {i : Nat} (h : chN b ≤ i) : chPart b i = [] := by
  unfold chN at h
  unfold chPart
  rw [List.drop_eq_nil_of_le (by omega)]
  rfl
/-- All parts together. -/
theorem chParts_flat (b : List Byte) : ∀ m, (List.range m).flatMap (chPart b) = b.take (4074 * m) := by
  intro m
  induction m with
  | zero => simp
  | succ m ih =>
    rw [List.range_succ, List.flatMap_append, ih]
    simp only [List.flatMap_cons, List.flatMap_nil, List.append_nil]
    unfold chPart
    rw [show 4074 * (m + 1) = 4074 * m + 4074 by omega, List.take_add]
theorem chParts_all (b : List Byte) : (List.range (chN b)).flatMap (chPart b) = b := by
  rw [chParts_flat, List.take_of_length_le]
  unfold chN; omega
section
variable {n : Nat} {st : PlSt} {kind : Int} {ps : List Int} {b : List Byte}
/-- The i-th page is good, if there may be so many. -/
theorem chPage_good (hok : chOk kind ps b) {i : Nat} (hi : i < ps.length) (most : Int) : chGood kind i most (ps.take (i + 1)) (chPage kind ps b i) ↔ (i : Int) < most := by
  obtain ⟨h1, h2, h3⟩ := hok
  have hb := chNext_bd h3 i
  obtain ⟨f1, f2, f3, f4⟩ := chBody_fields (b := b) hb.1 hb.2
  have hk := chIs_ok h1
  have hr : pgR (chPage kind ps b i) = ((kind, BitVec.ofNat 32 i, pgPad (chBody ps b i)), 0) := pgR_bytes (pgOk_iff.2 ⟨hk.1, hk.2, by rw [chBody_len]; have := chPart_le b i; omega⟩)
  unfold chGood
  rw [hr]
  simp only
  refine ⟨fun h => h.2.2.2.1, fun h => ⟨trivial, trivial, trivial, h, ?_, ?_, ?_, ?_, ?_, f4⟩⟩
  · rw [f2]; exact chPart_le b i
  · intro hn
    rw [f2]
    refine chPart_full ?_
    rw [← h2]
    have e := f1
    unfold chNext at e
    by_cases hh : i + 1 < ps.length
    · exact hh
    · rw [if_neg hh] at e; exact absurd (by omega) hn
  · rintro ⟨-, hz, h0⟩
    rw [f2] at hz
    exact chPart_last (by rw [← h2]; exact hi) h0 hz
  · intro h1'
    have e := f1
    rw [h1'] at e
    unfold chNext at e
    by_cases hh : i + 1 < ps.length
    · rw [if_pos hh] at e; have := h3 (i + 1) hh; omega
    · rw [if_neg hh] at e; omega
  · rw [f1]
    unfold chNext
    by_cases hh : i + 1 < ps.length
    · rw [if_pos hh]; exact (h3 (i + 1) hh).2.2
    · rw [if_neg hh]
      intro hm
      obtain ⟨j, hj, e⟩ := List.getElem_of_mem hm
      rw [List.getElem_take] at e
      have hj' : j < ps.length := by rw [List.length_take] at hj; omega
      have := h3 j hj'
      rw [List.getD_eq_getElem?_getD, List.getElem?_eq_getElem hj'] at this
      simp only [Option.getD_some] at this
      omega
/-- Another kind. -/
theorem chPage_other (hok : chOk kind ps b) {i : Nat} {k : Int} (hk' : k ≠ kind) (most : Int) (seen : List Int) : ¬ chGood k i most seen (chPage kind ps b i) := by
  obtain ⟨h1, h2, h3⟩ := hok
  have hk := chIs_ok h1
  have hr : pgR (chPage kind ps b i) = ((kind, BitVec.ofNat 32 i, pgPad (chBody ps b i)), 0) := pgR_bytes (pgOk_iff.2 ⟨hk.1, hk.2, by rw [chBody_len]; have := chPart_le b i; omega⟩)
  unfold chGood
  rw [hr]
  rintro ⟨-, h, -⟩
  exact hk' h.symm
/-- From the i-th page on. -/
theorem chRd_back (hok : chOk kind ps b) (most : Int) (hm : (ps.length : Int) ≤ most) : ∀ (f i : Nat) (st : PlSt), i < ps.length → ps.length ≤ i + f → PlInv n st → PlNP st → (∀ j (hj : j < ps.length), 0 ≤ ps[j] ∧ ps[j].toNat < n / 8 ∧ plV st ps[j].toNat = chPage kind ps b j) →
    (chRd n kind most f i (ps.take i) (ps.getD i 0) st).1 = (((List.range' i (ps.length - i)).map fun j => (ps.getD j 0, chPart b j)), 0) ∧ PlInv n (chRd n kind most f i (ps.take i) (ps.getD i 0) st).2 ∧ PlEq st (chRd n kind most f i (ps.take i) (ps.getD i 0) st).2 := by
  intro f
  induction f with
  | zero => intro i st hi hf; omega
  | succ f ih =>
    intro i st hi hf hI hP hv
    have hgi : ps.getD i 0 = ps[i] := by rw [List.getD_eq_getElem?_getD, List.getElem?_eq_getElem hi]; rfl
    obtain ⟨v1, v2, v3⟩ := hv i hi
    obtain ⟨k, hk⟩ : ∃ k : Nat, ps[i] = (k : Int) := ⟨ps[i].toNat, by omega⟩
    rw [hgi, hk]
    rw [hk] at v2 v3
    simp only [Int.toNat_natCast] at v2 v3
    obtain ⟨g1, g2, g3, g4⟩ := plGet_np hI hP v2
    have htk : ps.take i ++ [(k : Int)] = ps.take (i + 1) := by rw [List.take_add_one, List.getElem?_eq_getElem hi, hk]; rfl
    have hgd : chGood kind i most (ps.take i ++ [(k : Int)]) (plGetB n st k) := by
      rw [htk, g2, v3]; exact (chPage_good hok hi most).2 (by omega)
    have hb := chNext_bd hok.2.2 i
    obtain ⟨f1, f2, f3, f4⟩ := chBody_fields (b := b) hb.1 hb.2
    have hkd := chIs_ok hok.1
    have hr : pgR (chPage kind ps b i) = ((kind, BitVec.ofNat 32 i, pgPad (chBody ps b i)), 0) := pgR_bytes (pgOk_iff.2 ⟨hkd.1, hkd.2, by rw [chBody_len]; have := chPart_le b i; omega⟩)
    have hbs : chBs (pgR (plGetB n st k)).1.2.2 = chPart b i := by rw [g2, v3, hr]; exact f3
    have hnx : ((chNx (pgR (plGetB n st k)).1.2.2 : Nat) : Int) = chNext ps i := by rw [g2, v3, hr]; exact f1
    have hr' : List.range' i (ps.length - i) = i :: List.range' (i + 1) (ps.length - (i + 1)) := by
      rw [show ps.length - i = (ps.length - (i + 1)) + 1 by omega, List.range'_succ]
    have hgk : ps.getD i 0 = (k : Int) := hgi.trans hk
    by_cases hh : i + 1 < ps.length
    · have hn0 : chNx (pgR (plGetB n st k)).1.2.2 ≠ 0 := by
        intro e
        rw [e] at hnx
        unfold chNext at hnx
        rw [if_pos hh] at hnx
        have := hok.2.2 (i + 1) hh
        omega
      have hnx2 : ((chNx (pgR (plGetB n st k)).1.2.2 : Nat) : Int) = ps.getD (i + 1) 0 := by rw [hnx]; unfold chNext; rw [if_pos hh]
      have hq := chRd_next (most := most) (f := f) g1 hgd hn0
      rw [hbs, hnx2, htk] at hq
      obtain ⟨a, b', c⟩ := ih (i + 1) (plGet n st k).2 hh (by omega) g3 (hP.eq g4) (fun j hj => by
        obtain ⟨w1, w2, w3⟩ := hv j hj
        exact ⟨w1, w2, ((g4 _).1).trans w3⟩)
      rw [hq]
      refine ⟨?_, b', g4.trans c⟩
      rw [a, hr', List.map_cons, hgk]
    · have hn0 : chNx (pgR (plGetB n st k)).1.2.2 = 0 := by
        unfold chNext at hnx
        rw [if_neg hh] at hnx
        omega
      have hq := chRd_last (most := most) (f := f) g1 hgd hn0
      rw [hbs] at hq
      rw [hq]
      refine ⟨?_, g3, g4⟩
      rw [hr', show ps.length - (i + 1) = 0 by omega, List.range'_zero, List.map_cons, List.map_nil, hgk]
/-- Fewer are allowed than there are. -/
theorem chRd_few (hok : chOk kind ps b) (most : Int) (hm : most < (ps.length : Int)) : ∀ (f i : Nat) (st : PlSt), i < ps.length → (i : Int) ≤ max most 0 → (max most 0).toNat < i + f → PlInv n st → PlNP st → (∀ j (hj : j < ps.length), 0 ≤ ps[j] ∧ ps[j].toNat < n / 8 ∧ plV st ps[j].toNat = chPage kind ps b j) →
    (chRd n kind most f i (ps.take i) (ps.getD i 0) st).1.2 = 4 ∧ PlInv n (chRd n kind most f i (ps.take i) (ps.getD i 0) st).2 ∧ PlEq st (chRd n kind most f i (ps.take i) (ps.getD i 0) st).2 := by
  intro f
  induction f with
  | zero => intro i st hi h1 h2; omega
  | succ f ih =>
    intro i st hi h1 h2 hI hP hv
    have hgi : ps.getD i 0 = ps[i] := by rw [List.getD_eq_getElem?_getD, List.getElem?_eq_getElem hi]; rfl
    obtain ⟨v1, v2, v3⟩ := hv i hi
    obtain ⟨k, hk⟩ : ∃ k : Nat, ps[i] = (k : Int) := ⟨ps[i].toNat, by omega⟩
    rw [hgi, hk]
    rw [hk] at v2 v3
    simp only [Int.toNat_natCast] at v2 v3
    obtain ⟨g1, g2, g3, g4⟩ := plGet_np hI hP v2
    have htk : ps.take i ++ [(k : Int)] = ps.take (i + 1) := by rw [List.take_add_one, List.getElem?_eq_getElem hi, hk]; rfl
    have hgood : chGood kind i most (ps.take i ++ [(k : Int)]) (plGetB n st k) ↔ (i : Int) < most := by
      rw [htk, g2, v3]; exact chPage_good hok hi most
    by_cases hlt : (i : Int) < most
    · have hgd := hgood.2 hlt
      have hb := chNext_bd hok.2.2 i
      obtain ⟨f1, -⟩ := chBody_fields (b := b) hb.1 hb.2
      have hkd := chIs_ok hok.1
      have hr : pgR (chPage kind ps b i) = ((kind, BitVec.ofNat 32 i, pgPad (chBody ps b i)), 0) := pgR_bytes (pgOk_iff.2 ⟨hkd.1, hkd.2, by rw [chBody_len]; have := chPart_le b i; omega⟩)
      have hnx : ((chNx (pgR (plGetB n st k)).1.2.2 : Nat) : Int) = chNext ps i := by rw [g2, v3, hr]; exact f1
      have hh : i + 1 < ps.length := by omega
      have hn0 : chNx (pgR (plGetB n st k)).1.2.2 ≠ 0 := by
        intro e
        rw [e] at hnx
        unfold chNext at hnx
        rw [if_pos hh] at hnx
        have := hok.2.2 (i + 1) hh
        omega
      have hnx2 : ((chNx (pgR (plGetB n st k)).1.2.2 : Nat) : Int) = ps.getD (i + 1) 0 := by rw [hnx]; unfold chNext; rw [if_pos hh]
      have hq := chRd_next (most := most) (f := f) g1 hgd hn0
      rw [hnx2, htk] at hq
      obtain ⟨a, b', c⟩ := ih (i + 1) (plGet n st k).2 hh (by omega) (by omega) g3 (hP.eq g4) (fun j hj => by
        obtain ⟨w1, w2, w3⟩ := hv j hj
        exact ⟨w1, w2, ((g4 _).1).trans w3⟩)
      rw [hq]
      exact ⟨a, b', g4.trans c⟩
    · rw [chRd_bad g1 (fun h => hlt (hgood.1 h))]
      exact ⟨rfl, g3, g4⟩
end
end Go.Proofs.YtoidlmhebnlnbaaDoor
