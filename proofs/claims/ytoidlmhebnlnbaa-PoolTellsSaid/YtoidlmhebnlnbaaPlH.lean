/- pool: the walks through Reset, New, Frames. -/
import Derived.Test.YtoidlmhebnlnbaaPlG
set_option linter.unusedVariables false
set_option linter.unusedSimpArgs false
namespace Go.Proofs.Ytoidlmhebnlnbaa
open Go.ChangeShapes Go.WideShapes Go.ChangeAt Go.RowKit
attribute [local go_sem] nb_nonneg nb_lt8 nb_lt64
set_option maxRecDepth 100000

theorem cl_list {P : Program} {ops : Array Oper} {rest : List Oper} {o : Oper} {a : Act} {w : World} {Q : Exit → Act → World → Prop} (hgd : o.guard = none) (x : Operand) (t : TypeId)
    (ho : o.op = .call { callee := .builtin .clear, args := #[x], argTypes := #[t] }) (v : Value) (hx : a.eval x = v) {v' : Value} {w' : World}
    (hr : ∀ ty, (Builtin.clear_ #[t] ty #[v]).run P w = .ok v' w') (h : wpList P ops Q rest (a.put o.dst v') w') : wpList P ops Q (o :: rest) a w :=
  wpList_plain hgd fun _ hK => by
    unfold Oper.wp execOp
    simp only [ho, resolve, invoke, builtin, Sem.run_bind, Sem.run_pure, Result.andThen_ok, List.map_toArray, List.map_cons, List.map_nil, hx, hr]
    exact hK _ _ h
theorem info_fr : (Try.prog.info? 63).map (fun i => (i.zero, i.size, i.bytes)) = some (some (.agg #[.bool false, .int .i64 0, .int .i64 0, .bool false, .bool false, .slice none 0 0]), 6, 56) := by kernel_rfl
theorem info_af : (Try.prog.info? 45).map (fun i => (i.zero, i.size, i.bytes)) = some (some (.agg #[.bool false, .int .i64 0, .int .i64 0, .bool false, .bool false]), 5, 32) := by kernel_rfl
def fr0s : Array Value := #[.bool false, .int .i64 0, .int .i64 0, .bool false, .bool false, .slice none 0 0]
theorem fr_made (n : Nat) : (madeCells fr0s (n * 6)).toList = frFlat (List.replicate n frx0) := by
  apply List.ext_getElem?
  intro k
  by_cases hk : k < n * 6
  · have h1 := frFlat_get (List.replicate n frx0) (k / 6) (by rw [List.length_replicate]; omega) (k % 6) (by omega)
    rw [show k / 6 * 6 + k % 6 = k by omega, List.getElem_replicate] at h1
    rw [h1]
    unfold madeCells
    have h6 : k % 6 < 6 := by omega
    generalize hr : k % 6 = r at *
    simp only [Array.toList_map, Array.toList_range, List.getElem?_map, List.getElem?_range hk, Option.map_some]
    rw [show fr0s.size = 6 from rfl, hr]
    have : r = 0 ∨ r = 1 ∨ r = 2 ∨ r = 3 ∨ r = 4 ∨ r = 5 := by omega
    rcases this with rfl | rfl | rfl | rfl | rfl | rfl <;> rfl
  · rw [List.getElem?_eq_none (by rw [Array.length_toList, size_madeCells]; omega), List.getElem?_eq_none (by rw [frFlat_len, List.length_replicate]; omega)]
theorem zeroCells_made (z : Array Value) (n : Nat) : Builtin.zeroCells z n = madeCells z (n * z.size) := by simp [Builtin.zeroCells, madeCells]
section
variable {w w' w1 w2 : World} {F : List Nat} {g n gp gf hand : Nat} {xs : List FrX} {D : DiskSt} {st st' : PlSt}
/-- All frames are written. -/
theorem Pol.zeroAll (h : Pol w F g n gp gf xs hand D) :
    (∀ ty, (Builtin.clear_ #[54] ty #[.slice (some ⟨gf, 0, none⟩) xs.length xs.length]).run Try.prog w = .ok (.tuple #[]) (w.setRow gf (frFlat (List.replicate xs.length frx0)).toArray)) ∧
      Pol (w.setRow gf (frFlat (List.replicate xs.length frx0)).toArray) F g n gp gf (List.replicate xs.length frx0) hand D := by
  obtain ⟨i, hi, hz, hsize, hby⟩ := info_parts info_fr
  have hl0 := h.hl
  constructor
  · intro ty
    obtain ⟨m, hm⟩ : ∃ m, xs.length = m + 1 := ⟨xs.length - 1, by omega⟩
    have one : ∀ v ∈ (madeCells fr0s (xs.length * 6)).toList, v.oneCell' = true := by
      rw [fr_made]
      intro v hv
      unfold frFlat at hv
      obtain ⟨x, hx, hv⟩ := List.mem_flatMap.1 hv
      rw [List.eq_of_mem_replicate hx] at hv
      unfold frCs at hv
      simp only [List.mem_cons, List.not_mem_nil, or_false] at hv
      rcases hv with rfl | rfl | rfl | rfl | rfl | rfl <;> rfl
    have hst := run_storeCells_at (P := Try.prog) gf 0 63 (madeCells fr0s (xs.length * 6)).toList 0 (frFlat xs).toArray w h.frow (by rw [Array.length_toList, size_madeCells, List.size_toArray, frFlat_len]; omega) one
    have e0 : ((frFlat xs).toArray.toList.take (0 + 0) ++ (madeCells fr0s (xs.length * 6)).toList ++ (frFlat xs).toArray.toList.drop (0 + 0 + (madeCells fr0s (xs.length * 6)).toList.length)) = frFlat (List.replicate xs.length frx0) := by
      rw [fr_made]
      have : (frFlat (List.replicate xs.length frx0)).length = xs.length * 6 := by rw [frFlat_len, List.length_replicate]
      simp [this, frFlat_len]
    rw [e0] at hst
    have hzc : (Builtin.zeroCells (Value.cells (.agg #[.bool false, .int .i64 0, .int .i64 0, .bool false, .bool false, .slice none 0 0])) xs.length).toList = (madeCells fr0s (xs.length * 6)).toList := by
      rw [zeroCells_made]; rfl
    rw [← hzc] at hst
    rw [hm] at hst ⊢
    simp [Builtin.clear_, run_underlying Try.underlying54, zeroValue, typeInfo, hi, hz, hst]
  · have k : TB gf w (w.setRow gf (frFlat (List.replicate xs.length frx0)).toArray) := ⟨rfl, rfl, rfl, by simp, fun k _ hk => setRow_other w gf k _ (fun e => hk (by simp [e]))⟩
    have ks := TS.tb (F := [gf]) k (by simp)
    refine ⟨h.dsk.ts ks (fun y hy hm => by simp at hy; subst hy; exact h.ne.2.2 hm), ?_, setRow_heap w gf _ _ _ _ h.frow, fun y hy => ?_, fun y hy => ?_, h.ne, by rw [List.length_replicate]; exact h.hl, by rw [List.length_replicate]; exact h.n256⟩
    · rw [List.length_replicate]
      exact (ks.block _ h.lt.1 (by simp; exact h.ne.1)).trans h.prow
    · rw [List.eq_of_mem_replicate hy]
      have := frx0_ok (w.setRow gf (frFlat (List.replicate xs.length frx0)).toArray) F gp gf
      exact ⟨this.1, this.2.1, this.2.2.1, this.2.2.2.1⟩
    · rw [List.eq_of_mem_replicate hy]; exact (frx0_ok w F gp gf).2.2.2.2
set_option maxHeartbeats 1000000 in
theorem pl_Reset (h : Pol w F g n gp gf xs hand D) :
    Calls Try.prog 24 #[.pointer (some ⟨gp, 0, none⟩)] w fun e w' => e = .returned (.int .i64 0) ∧ PolR w F g n gp gf ⟨List.replicate xs.length frm0, 0, D⟩ w' := by
  have HM := Lib.hid (pl_made h)
  obtain ⟨p0, p1, p2⟩ := h.pcells
  obtain ⟨hcl, hp⟩ := h.zeroAll
  have HT := Lib.hid (TS.row (gp :: gf :: F) gf w (frFlat (List.replicate xs.length frx0)).toArray (by simp))
  have HL := Lib.hid (show 0 < xs.length from by have := h.hl; omega)
  have HMP := Lib.hid (show (List.replicate xs.length frx0).map (·.f) = List.replicate xs.length frm0 from by rw [List.map_replicate]; rfl)
  have HPQ := Lib.hid (hp.moved 0 (by rw [List.length_replicate]; exact HL.out))
  obtain ⟨q0, q1, q2⟩ := hp.pcells
  have fz := frozen_row _ hp.prow 2
  generalize List.replicate xs.length frx0 = ys at *
  generalize w.setRow gf (frFlat ys).toArray = w3 at *
  have HT2 := Lib.hid (show TS (gp :: gf :: F) w (w3.setCell ⟨gp, 2, none⟩ (.int .i64 0)) from HT.out.then (TS.tb (TB.set (g := gp) w3 2 _) (by simp)))
  clear h hp
  go_enter Try.func24, Try.ntmps24
  go_wp2_with fail
  refine HM.out.mono ?_
  rintro e w1 ⟨rfl, rfl⟩
  go_wp2_with (refine cl_list rfl _ _ rfl _ rfl hcl ?_)
  clear hcl p0 p1 p2 HM
  go_wp2
  go_ret
  exact ⟨rfl, F, ys, HPQ.out, HMP.out, fun _ hx => .inl hx, HT2.out⟩
end
end Go.Proofs.Ytoidlmhebnlnbaa
