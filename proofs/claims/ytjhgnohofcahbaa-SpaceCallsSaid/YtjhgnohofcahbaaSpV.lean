/- space: what stands in memory while pages are turned one by one. -/
import Derived.Test.YtjhgnohofcahbaaSpU
set_option linter.unusedVariables false
set_option linter.unusedSimpArgs false
namespace Go.Proofs.Ytjhgnohofcahbaa
open Go.ChangeShapes Go.WideShapes Go.ChangeAt Go.RowKit
set_option maxRecDepth 100000

def SpBX (p : Nat → Prop) (W : World) (g : Nat) (P : Int) (us : List Bool) : Prop :=
  ∃ A c, W.heap[g]? = some (.cells #[.int .i64 P, .slice A us.length c] 41 (0, 0)) ∧ RdV W A (us.map .bool) ∧ us.length ≤ c ∧ c ≤ maxLen ∧ ∀ ad, A = some ad → p ad.block
theorem SpBX.sp {p : Nat → Prop} {W : World} {g : Nat} {P : Int} {us : List Bool} (h : SpBX p W g P us) : SpB W g P us := by
  obtain ⟨A, c, h1, h2, h3, h4, -⟩ := h; exact ⟨A, c, h1, h2, h3, h4⟩
theorem SpBX.fb {p : Nat → Prop} {W W' : World} {g : Nat} {P : Int} {us : List Bool} (h : SpBX p W g P us) (hb : FB W W') : SpBX p W' g P us := by
  obtain ⟨A, c, h1, h2, h3, h4, h5⟩ := h
  exact ⟨A, c, (hb.block _ (Array.getElem?_eq_some_iff.1 h1).1).trans h1, hb.rdV h2, h3, h4, h5⟩
theorem SpBX.new {p : Nat → Prop} {W : World} {g : Nat} {P : Int} {us : List Bool} {A : Option Addr} {c : Nat} (hr : RdV W A (us.map .bool)) (h1 : us.length ≤ c) (h2 : c ≤ maxLen) (hp : ∀ ad, A = some ad → p ad.block) (hg : g = W.heap.size) : SpBX p (W.alloc (.cells #[.int .i64 P, .slice A us.length c] 41)) g P us := by
  subst hg
  exact ⟨A, c, heap_alloc_new _ _, ((FB.refl W).alloc _).rdV hr, h1, h2, hp⟩
/-- What stands in memory between two rounds. -/
structure CtW (w : World) (g5 : Nat) (L1 : Option Addr) (zs : List Int) (P : Int) (us cur : List Bool) (v6 : Value) (ds : List Nat) (W : World) : Prop where
  fb : FB w W
  sx : SpBX (· < g5) W w.heap.size P us
  l : RdV W L1 (zs.map (Value.int .i64))
  now : SpB W g5 P cur
  done : OwnV 3 W (g5 + 1) v6 (ivs ds)
theorem CtW.s {w W : World} {g5 : Nat} {L1 : Option Addr} {zs : List Int} {P : Int} {us cur : List Bool} {v6 : Value} {ds : List Nat} (h : CtW w g5 L1 zs P us cur v6 ds W) : SpB W w.heap.size P us := h.sx.sp
theorem CtW.go {w W W' : World} {g5 : Nat} {L1 : Option Addr} {zs : List Int} {P : Int} {us cur : List Bool} {v6 : Value} {ds : List Nat} (h : CtW w g5 L1 zs P us cur v6 ds W) (hb : FB W W') : CtW w g5 L1 zs P us cur v6 ds W' :=
  ⟨h.fb.trans hb, h.sx.fb hb, hb.rdV h.l, h.now.fb hb, hb.ownV h.done⟩
theorem sch_storeR {P : Program} {ops : Array Oper} {Q : Exit → Act → World → Prop} {E : World → World → Prop} {i : Nat} {σ : List (Nat × Bool)} {o : Oper} {a : Act} {w w' : World} (hi : ops[i]? = some o) (hw : Region.wanted o (yielded ops a.tmps) = true) (ty : TypeId) (x y : Operand) (ho : o.op = .store ty x y) (hd : o.dst = none)
    (vx v : Value) (hx : a.eval x = vx) (hy : a.eval y = v) (hr : (Instr.storeAt ty vx v).run P w = .ok () w') (hE : E w w') (h : wpSch P ops Q E σ a w') : wpSch P ops Q E ((i, false) :: σ) a w := by
  refine sch_eff hi hw fun K hK => ?_
  unfold Oper.wp execOp
  simp only [ho, Sem.run_bind, Sem.run_pure, Result.andThen_ok, hx, hy, hr]
  refine hK _ _ hE ?_
  rw [hd]; exact h
theorem pick_at (z P : Int) (m : Nat) (hP : P = (m : Int)) (hm : 1 ≤ m) : ∃ n : Nat, pick z P = (n : Int) ∧ n < m := by
  subst hP
  have h0 := Int.emod_nonneg z (b := (m : Int)) (by omega)
  have h1 := Int.emod_lt_of_pos z (b := (m : Int)) (by omega)
  refine ⟨(z % (m : Int)).toNat, ?_, by omega⟩
  unfold pick
  rw [if_neg (by omega)]
  omega
theorem SpBX.ts {p : Nat → Prop} {F : List Nat} {W W' : World} {g : Nat} {P : Int} {us : List Bool} (h : SpBX p W g P us) (ht : TS F W W') (hg : g ∉ F) (hp : ∀ k, p k → k ∉ F) : SpBX p W' g P us := by
  obtain ⟨A, c, h1, h2, h3, h4, h5⟩ := h
  exact ⟨A, c, (ht.block _ (Array.getElem?_eq_some_iff.1 h1).1 hg).trans h1, ht.rdV h2 (fun ad ha => hp _ (h5 ad ha)), h3, h4, h5⟩
theorem ts_grown {w w' : World} {o : Option Nat} (h : w.grownBy w' o) : TS o.toList w w' :=
  ⟨h.os, h.tape, h.output, h.size, fun k hk hn => h.block k hk (fun e => hn (by rw [← e]; simp))⟩
theorem bl_cell {N : Nat} {w W : World} {a : Addr} {v : Value} (h : Below N w W) (hc : w.cell? a = some v) (ha : a.block < N) : W.cell? a = some v := (Below.cell h ha).trans hc
theorem ts_grownC {g : Nat} {w w' : World} {o : Option Nat} (h : w.grownBy w' o) : TS (g :: o.toList) w w' :=
  ⟨h.os, h.tape, h.output, h.size, fun k hk hn => h.block k hk (fun e => hn (by rw [← e]; simp))⟩
/-- A page is turned: the space is laid anew, its number behind the others. -/
theorem CtW.turn {w : World} {g5 : Nat} {L1 : Option Addr} {zs : List Int} {P : Int} {us cur nx : List Bool} {v6 v' : Value} {ds : List Nat} {n : Nat} {W W4 : World} {A : Option Addr} {c : Nat}
    (h : CtW w g5 L1 zs P us cur v6 ds W) (hg : w.heap.size < g5) (hl : ∀ ad, L1 = some ad → ad.block < w.heap.size) (ho : OwnV 3 W4 (g5 + 1) v' (ivs ds ++ [.int .i64 (n : Int)])) (hgr : W.grownBy W4 v6.ownBlock)
    (hr : RdV W A (nx.map .bool)) (h1 : nx.length ≤ c) (h2 : c ≤ maxLen) (hA : ∀ ad, A = some ad → v6.ownBlock ≠ some ad.block) :
    (Instr.storeAt 41 (.pointer (some ⟨g5, 0, none⟩)) (.agg #[.int .i64 P, .slice A nx.length c])).run Try.prog W4 = .ok () (W4.setRow g5 #[.int .i64 P, .slice A nx.length c])
      ∧ TS (g5 :: v6.ownBlock.toList) W (W4.setRow g5 #[.int .i64 P, .slice A nx.length c])
      ∧ CtW w g5 L1 zs P us nx v' (ds ++ [n]) (W4.setRow g5 #[.int .i64 P, .slice A nx.length c]) := by
  obtain ⟨A5, c5, hrow, hrd, hlc, hcm⟩ := h.now
  have hob : ∀ k, v6.ownBlock = some k → g5 + 1 ≤ k ∧ k < W.heap.size := OwnV.base h.done
  have hlt := (Array.getElem?_eq_some_iff.1 hrow).1
  have hts : TS (v6.ownBlock.toList) W W4 := ts_grown hgr
  have hrow4 : W4.heap[g5]? = some (.cells #[.int .i64 P, .slice A5 cur.length c5] 41 (0, 0)) :=
    (hts.block g5 hlt (fun e => by rw [Option.mem_toList] at e; have := hob _ e; omega)).trans hrow
  have hr4 : RdV W4 A (nx.map .bool) := hts.rdV hr (fun ad ha e => by rw [Option.mem_toList] at e; exact hA ad ha e)
  have hts2 : TS (g5 :: v6.ownBlock.toList) W (W4.setRow g5 #[.int .i64 P, .slice A nx.length c]) :=
    TS.trans (F := g5 :: v6.ownBlock.toList) (F' := g5 :: v6.ownBlock.toList) (⟨hts.os, hts.tape, hts.output, hts.size, fun k hk hn => hts.block k hk (fun e => hn (List.mem_cons_of_mem _ e))⟩) (TS.tb (TB.setRow g5 W4 _) (by simp)) (fun x hx => .inl hx)
  have hF : ∀ x ∈ g5 :: v6.ownBlock.toList, g5 ≤ x := fun x hx => by
    rcases List.mem_cons.1 hx with e | e
    · omega
    · rw [Option.mem_toList] at e; have := hob _ e; omega
  refine ⟨sp_store (.int .i64 P) (.slice A nx.length c) hrow4 (by simp [Value.oneCell']), hts2, ?_⟩
  refine ⟨h.fb.ts hts2 (fun x hx => by have := hF x hx; omega), h.sx.ts hts2 (fun e => by have := hF _ e; omega) (fun k hk e => by have := hF _ e; omega), hts2.rdV h.l (fun ad ha e => by have := hF _ e; have := hl ad ha; omega), SpB.put hrow4 hr4 h1 h2, ?_⟩
  rw [ivs_snoc]
  exact (TS.tb (TB.setRow g5 W4 _) (List.mem_singleton.2 rfl)).ownV ho (fun k hk e => by have := (OwnV.base ho k hk).1; rw [List.mem_singleton] at e; omega)
/-- A whole space is laid into 'now'. -/
theorem CtW.lay {w : World} {g5 : Nat} {L1 : Option Addr} {zs : List Int} {P : Int} {us cur nx : List Bool} {v6 : Value} {ds : List Nat} {W : World} {A : Option Addr} {c : Nat}
    (h : CtW w g5 L1 zs P us cur v6 ds W) (hg : w.heap.size < g5) (hl : ∀ ad, L1 = some ad → ad.block < w.heap.size)
    (hr : RdV W A (nx.map .bool)) (h1 : nx.length ≤ c) (h2 : c ≤ maxLen) :
    (Instr.storeAt 41 (.pointer (some ⟨g5, 0, none⟩)) (.agg #[.int .i64 P, .slice A nx.length c])).run Try.prog W = .ok () (W.setRow g5 #[.int .i64 P, .slice A nx.length c])
      ∧ CtW w g5 L1 zs P us nx v6 ds (W.setRow g5 #[.int .i64 P, .slice A nx.length c]) := by
  obtain ⟨A5, c5, hrow, hrd, hlc, hcm⟩ := h.now
  have hts : TS [g5] W (W.setRow g5 #[.int .i64 P, .slice A nx.length c]) := ts_row g5 W _
  refine ⟨sp_store (.int .i64 P) (.slice A nx.length c) hrow (by simp [Value.oneCell']), ?_⟩
  refine ⟨h.fb.ts hts (fun x hx => by rw [List.mem_singleton] at hx; omega), h.sx.ts hts (fun e => by rw [List.mem_singleton] at e; omega) (fun k hk e => by rw [List.mem_singleton] at e; omega), hts.rdV h.l (fun ad ha e => by rw [List.mem_singleton] at e; have := hl ad ha; omega), SpB.put hrow hr h1 h2, ?_⟩
  exact hts.ownV h.done (fun k hk e => by have := (OwnV.base h.done k hk).1; rw [List.mem_singleton] at e; omega)
/-- A whole space is laid into a variable beside. -/
theorem CtW.put {w : World} {g5 gX : Nat} {L1 : Option Addr} {zs : List Int} {P P0 P1 : Int} {us cur nx us0 : List Bool} {v6 : Value} {ds : List Nat} {W : World} {A : Option Addr} {c : Nat}
    (h : CtW w g5 L1 zs P us cur v6 ds W) (hg : w.heap.size < g5) (hl : ∀ ad, L1 = some ad → ad.block < w.heap.size) (hx : SpB W gX P0 us0) (hgx : g5 < gX) (hob : ∀ k, v6.ownBlock = some k → k < gX)
    (hr : RdV W A (nx.map .bool)) (h1 : nx.length ≤ c) (h2 : c ≤ maxLen) :
    (Instr.storeAt 41 (.pointer (some ⟨gX, 0, none⟩)) (.agg #[.int .i64 P1, .slice A nx.length c])).run Try.prog W = .ok () (W.setRow gX #[.int .i64 P1, .slice A nx.length c])
      ∧ CtW w g5 L1 zs P us cur v6 ds (W.setRow gX #[.int .i64 P1, .slice A nx.length c])
      ∧ SpB (W.setRow gX #[.int .i64 P1, .slice A nx.length c]) gX P1 nx := by
  obtain ⟨A5, c5, hrow, hrd, hlc, hcm⟩ := hx
  have hts : TS [gX] W (W.setRow gX #[.int .i64 P1, .slice A nx.length c]) := ts_row gX W _
  refine ⟨sp_store (.int .i64 P1) (.slice A nx.length c) hrow (by simp [Value.oneCell']), ?_, SpB.put hrow hr h1 h2⟩
  refine ⟨h.fb.ts hts (fun x hx => by rw [List.mem_singleton] at hx; omega), h.sx.ts hts (fun e => by rw [List.mem_singleton] at e; omega) (fun k hk e => by rw [List.mem_singleton] at e; omega), hts.rdV h.l (fun ad ha e => by rw [List.mem_singleton] at e; have := hl ad ha; omega), SpB.over h.now hrow hts (by omega), ?_⟩
  exact hts.ownV h.done (fun k hk e => by have := hob k hk; rw [List.mem_singleton] at e; omega)
end Go.Proofs.Ytjhgnohofcahbaa
