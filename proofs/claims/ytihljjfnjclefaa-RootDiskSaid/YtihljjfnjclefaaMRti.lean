/- Walks and laws that the claim's last text stands on, several texts in one file: DskG, DskH, DskI, PgM, PgN. Under the hypotheses that each theorem states. -/
import Derived.Defers
import Derived.Deep.Cut
import Derived.Deep.CutRange
import Derived.Test.YtihljjfnjclefaaMRta
import Derived.Test.YtihljjfnjclefaaMRtb
import Derived.Test.YtihljjfnjclefaaMRtc
import Derived.Test.YtihljjfnjclefaaMRtd
import Derived.Test.YtihljjfnjclefaaMRte
import Derived.Test.YtihljjfnjclefaaMRtf
import Derived.Test.YtihljjfnjclefaaMRtg
import Derived.Test.YtihljjfnjclefaaMRth
/- A disk: the cache made empty; the walk through Crash. -/
set_option linter.unusedVariables false
set_option linter.unusedSimpArgs false
namespace Go.Proofs.Ytihljjfnjclefaa
open Go.ChangeShapes Go.WideShapes Go.ChangeAt Go.RowKit Go.MapKept

/-- 'clear(m)' at the operation. -/
theorem wpList_clear_run {P : Program} {ops : Array Oper} {rest : List Oper} {o : Oper} {a : Act} {w : World} {Q : Exit → Act → World → Prop} (hgd : o.guard = none) (x : Operand) (t : TypeId)
    (ho : o.op = .call { callee := .builtin .clear, args := #[x], argTypes := #[t] }) (v : Value) (hx : a.eval x = v) {v' : Value} {w' : World}
    (hr : (Builtin.clear_ #[t] o.type #[v]).run P w = .ok v' w') (h : wpList P ops Q rest (a.put o.dst v') w') : wpList P ops Q (o :: rest) a w :=
  wpList_plain hgd fun _ hK => by
    unfold Oper.wp execOp
    simp only [ho, resolve, invoke, builtin, Sem.run_bind, Sem.run_pure, Result.andThen_ok, List.map_toArray, List.map_cons, List.map_nil, hx, hr]
    exact hK _ _ h
/-- The cache made empty, and the order. -/
theorem DskC.cleared {w w' : World} {F : List Nat} {g n gb c gm : Nat} {O : Option Addr} {oc : Nat} {L : Option Nat} {V : List (Int × Value)} {D : DiskSt} {ord : List Int} (h : DskC w F g n gb c gm O oc L V D ord) (hok : D.ok n) (hm : MapAt w' gm []) (htb : TB gm w w') :
    w'.heap[g]? = some (.cells #[.slice (some ⟨gb, 0, none⟩) (512 * n) c, .map (some gm), .slice O ord.length oc, .pointer (L.map fun l => ⟨l, 0, none⟩)] 100 (0, 0)) ∧
    Dsk (w'.setCell ⟨g, 2, none⟩ (.slice none 0 0)) F g n { D with M := [] } ∧ TS F w (w'.setCell ⟨g, 2, none⟩ (.slice none 0 0)) := by
  have hnd := h.nodup
  unfold dctl at hnd
  have hts : TS [gm] w w' := TS.tb htb (by simp)
  have hset : TS [g] w' (w'.setCell ⟨g, 2, none⟩ (.slice none 0 0)) := TS.tb (TB.set w' 2 _) (by simp)
  have hgm : g ≠ gm := fun e => by simp [e] at hnd
  have hrow : w'.heap[g]? = _ := (hts.block g (Array.getElem?_eq_some_iff.1 h.row).1 (by simpa using hgm)).trans h.row
  have hts2 : TS [g, gm] w (w'.setCell ⟨g, 2, none⟩ (.slice none 0 0)) := ⟨hset.os.trans hts.os, hset.tape.trans hts.tape, hset.output.trans hts.output, Nat.le_trans hts.size hset.size, fun x hx hn => (hset.block x (Nat.lt_of_lt_of_le hx hts.size) (fun e => hn (by simp at e; simp [e]))).trans (hts.block x hx (fun e => hn (by simp at e; simp [e])))⟩
  have hx1 : ∀ x ∈ [gb] ++ L.toList, x ∉ [g, gm] := by
    intro x hx hm
    simp only [List.cons_append, List.nil_append, List.nodup_cons, List.mem_cons, List.mem_append, not_or] at hnd
    obtain ⟨⟨a1, a2, a3, a4⟩, ⟨b1, b2, b3⟩, ⟨c1, c2⟩, d⟩ := hnd
    simp at hx hm
    rcases hx with rfl | hx
    · rcases hm with rfl | rfl
      · exact a1 rfl
      · exact b1 rfl
    · rcases hm with rfl | rfl
      · exact a4 (by simpa using hx)
      · exact c2 (by simpa using hx)
  refine ⟨hrow, ⟨gb, c, gm, none, 0, L, [], ?_, hts2.ownV h.bytes (fun b hb => by cases hb; exact hx1 gb (by simp)), hm.ts hset (by simpa using hgm.symm), .nil, OwnV.nil _ _ _, ?_, ?_, ?_, ⟨hok.len, hok.n1, hok.n2, by simp, hok.f⟩, fun x hx => Nat.lt_of_lt_of_le (h.lt x hx) hts2.size⟩, ?_⟩
  · rw [heap_setCell_same _ _ _ _ _ _ hrow]; rfl
  · have h6 := h.fuse
    unfold FuseAt at *
    simp only
    revert h6
    generalize D.fuse = fz
    intro h6
    cases L with
    | none => cases fz with
      | none => trivial
      | some z => exact h6
    | some l => cases fz with
      | none => exact h6
      | some z =>
        simp only at h6 ⊢
        rw [hts2.block l (Array.getElem?_eq_some_iff.1 h6).1 (hx1 l (by simp))]; exact h6
  · have hsub : ([g, gb, gm] ++ (optBlk none ++ L.toList)).Sublist ([g, gb, gm] ++ (optBlk O ++ L.toList)) := List.Sublist.append_left (List.sublist_append_right _ _) _
    exact hnd.sublist hsub
  · intro x hx
    refine h.mem x ?_
    simp only [optBlk, Option.toList_none, List.map_nil, List.nil_append, List.mem_append] at hx
    simp only [dctl, List.mem_append]
    rcases hx with hx | hx
    · exact .inl hx
    · exact .inr (.inr hx)
  · exact ⟨hts2.os, hts2.tape, hts2.output, hts2.size, fun x hx hn => hts2.block x hx (fun e => hn (by
      simp at e
      rcases e with rfl | rfl
      · exact h.mem _ (by simp [dctl])
      · exact h.mem _ (by simp [dctl])))⟩
/-- How many bytes of the i-th cached sector a crash leaves. -/
def keptLen (keep : List Bool) (torn bytes : Int) (i : Nat) : Nat := if (i : Int) = torn ∧ 0 ≤ bytes ∧ bytes ≤ 512 then bytes.toNat else if keep.getD i false then 512 else 0
/-- The bytes when j cached sectors have been gone through. -/
def crashB (f : Nat → Nat) (M : List (Int × List Byte)) (b : List Byte) : Nat → List Byte
  | 0 => b
  | j + 1 => match M[j]? with
    | some p => splice (crashB f M b j) (512 * p.1.toNat) (p.2.take (f j))
    | none => crashB f M b j
theorem crashB_len {f : Nat → Nat} {M : List (Int × List Byte)} {b : List Byte} {n : Nat} (hb : b.length = 512 * n) (hM : ∀ p ∈ M, 0 ≤ p.1 ∧ p.1 < n ∧ p.2.length = 512) : ∀ j, (crashB f M b j).length = 512 * n
  | 0 => hb
  | j + 1 => by
    rw [crashB]
    cases hj : M[j]? with
    | none => exact crashB_len hb hM j
    | some p =>
      have := hM p (List.mem_of_getElem? hj)
      have ih := crashB_len (f := f) hb hM j
      simp only
      rw [splice_len (by rw [List.length_take, ih]; omega), ih]
/-- 'copy(x, y)' at the operation; as a step of a region that draws. -/
theorem wpList_copy_by {P : Program} {ops : Array Oper} {rest : List Oper} {o : Oper} {a : Act} {w : World} {Q : Exit → Act → World → Prop} (hgd : o.guard = none) (x y : Operand) (t t' : TypeId)
    (ho : o.op = .call { callee := .builtin .copy, args := #[x, y], argTypes := #[t, t'] }) (v u : Value) (hx : a.eval x = v) (hy : a.eval y = u) {v' : Value} {w' : World}
    (hr : ∀ ty, (Builtin.copy_ #[t, t'] ty #[v, u]).run P w = .ok v' w') (h : wpList P ops Q rest (a.put o.dst v') w') : wpList P ops Q (o :: rest) a w :=
  wpList_plain hgd fun _ hK => by
    unfold Oper.wp execOp
    simp only [ho, resolve, invoke, builtin, Sem.run_bind, Sem.run_pure, Result.andThen_ok, List.map_toArray, List.map_cons, List.map_nil, hx, hy, hr]
    exact hK _ _ h
theorem sch_copy {P : Program} {ops : Array Oper} {Q : Exit → Act → World → Prop} {E : World → World → Prop} {i : Nat} {σ : List (Nat × Bool)} {o : Oper} {a : Act} {w w' : World} (hi : ops[i]? = some o) (hw : Region.wanted o (yielded ops a.tmps) = true)
    (x y : Operand) (t t' : TypeId) (ho : o.op = .call { callee := .builtin .copy, args := #[x, y], argTypes := #[t, t'] }) (v u : Value) (hx : a.eval x = v) (hy : a.eval y = u) {v' : Value}
    (hr : ∀ ty, (Builtin.copy_ #[t, t'] ty #[v, u]).run P w = .ok v' w') (hE : E w w') (h : wpSch P ops Q E σ (a.put o.dst v') w') : wpSch P ops Q E ((i, false) :: σ) a w :=
  sch_eff hi hw fun K hK => by
    unfold Oper.wp execOp
    simp only [ho, resolve, invoke, builtin, Sem.run_bind, Sem.run_pure, Result.andThen_ok, List.map_toArray, List.map_cons, List.map_nil, hx, hy, hr]
    exact hK _ _ hE h
theorem cget_at : ∀ {M : List (Int × List Byte)} {j : Nat} {p : Int × List Byte}, (M.map (·.1)).Nodup → M[j]? = some p → cget M p.1 = some p.2
  | [], j, p, _, h => by simp at h
  | (k', v) :: M, 0, p, _, h => by
    simp only [List.getElem?_cons_zero, Option.some.injEq] at h
    subst h
    rw [cget, if_pos rfl]
  | (k', v) :: M, j + 1, p, hn, h => by
    simp only [List.getElem?_cons_succ] at h
    simp only [List.map_cons, List.nodup_cons] at hn
    rw [cget, if_neg (fun e => hn.1 (by rw [e]; exact List.mem_map.2 ⟨p, List.mem_of_getElem? h, rfl⟩))]
    exact cget_at hn.2 h
theorem DskC.nodupM {w : World} {F : List Nat} {g n gb c gm : Nat} {O : Option Addr} {oc : Nat} {L : Option Nat} {V : List (Int × Value)} {D : DiskSt} {ord : List Int} (h : DskC w F g n gb c gm O oc L V D ord) : (D.M.map (·.1)).Nodup := by
  obtain ⟨es, clock, m1, m2, m3, m4, m5⟩ := h.map
  rw [← h.vals.keys]; exact m5
theorem Dsk.mlen {w : World} {F : List Nat} {g n : Nat} {D : DiskSt} (h : Dsk w F g n D) : D.M.length ≤ n := by
  have hok := h.ok
  obtain ⟨gb, c, gm, O, oc, L, V, hp⟩ := h.parts
  have := keys_len n _ hp.nodupM (fun x hx => by
    obtain ⟨p, hp, rfl⟩ := List.mem_map.1 hx
    have := hok.M p hp
    exact ⟨this.1, this.2.1⟩)
  rwa [List.length_map] at this
end Go.Proofs.Ytihljjfnjclefaa
/- A disk: the walk through Crash. -/
set_option linter.unusedVariables false
set_option linter.unusedSimpArgs false
namespace Go.Proofs.Ytihljjfnjclefaa
open Go.ChangeShapes Go.WideShapes Go.ChangeAt Go.RowKit Go.MapKept

theorem row3 {W : World} {g : Nat} {a b c : Value} {t : TypeId} {fr : Nat × Nat} (h : W.heap[g]? = some (.cells #[a, b, c] t fr)) :
    W.cell? ⟨g, 0, none⟩ = some a ∧ W.cell? ⟨g, 1, none⟩ = some b ∧ W.cell? ⟨g, 2, none⟩ = some c := by
  refine ⟨?_, ?_, ?_⟩ <;> (rw [cell_of_row _ _ _ _ _ _ h]; rfl)
set_option maxRecDepth 100000 in
set_option maxHeartbeats 4000000 in
theorem dsk_Crash {w : World} {F : List Nat} {g n : Nat} {D : DiskSt} (h : Dsk w F g n D) (KA : Option Addr) (kc : Nat) (keep : List Bool) (torn bytes : Int) (hkr : RdV w KA (keep.map .bool)) (hKF : ∀ ad, KA = some ad → ad.block ∉ F) :
    Calls Try.prog 32 #[.pointer (some ⟨g, 0, none⟩), .agg #[.slice KA keep.length kc, .int .i64 torn, .int .i64 bytes]] w fun e w' => e = .returned (.int .i64 0) ∧ Dsk w' F g n ⟨crashB (keptLen keep torn bytes) D.M D.b D.M.length, [], none⟩ ∧ TS F w w' := by
  have hF := h.lt
  have hbx : w.heap.size ∉ F := fun hm => by have := hF _ hm; omega
  have hb := h.fb ((FB.refl w).alloc (.cells #[.slice KA keep.length kc, .int .i64 torn, .int .i64 bytes] 52))
  have H := Lib.hid hb
  have HOK := Lib.hid hb.ok
  have HKR := Lib.hid (((FB.refl w).alloc (.cells #[.slice KA keep.length kc, .int .i64 torn, .int .i64 bytes] 52)).rdV hkr)
  have HT0 := Lib.hid (TS.of (F := F) ((FB.refl w).alloc (.cells #[.slice KA keep.length kc, .int .i64 torn, .int .i64 bytes] 52)))
  obtain ⟨gb, c, gm, O, oc, L, V, hp⟩ := hb.parts
  obtain ⟨p0, p1, p2, p3⟩ := row4 hp.row
  rw [List.length_map] at p2
  have HP := Lib.hid hp
  have HBX := Lib.hid (heap_alloc_new w (.cells #[.slice KA keep.length kc, .int .i64 torn, .int .i64 bytes] 52))
  have HN2 := Lib.hid hb.ok.n2
  have HNB := Lib.hid hbx
  have HKF := Lib.hid hKF
  have HM := Lib.hid hb.ok.M
  have hml0 := hb.mlen
  have hml : D.M.length ≤ 32768 := Nat.le_trans hml0 hb.ok.n2
  clear hml0
  clear h hb hp hkr hF hbx hKF
  go_enter Try.func32, Try.ntmps32
  go_wp2_with fail
  refine (dsk_made H.out).mono ?_
  rintro e w1 ⟨rfl, rfl⟩
  generalize w.alloc (.cells #[.slice KA keep.length kc, .int .i64 torn, .int .i64 bytes] 52) = w0 at *
  go_wp2
  go_loopw [16] (fun i wr => ∃ j : Nat, j ≤ D.M.length ∧ i = .int .i64 j ∧ Hid (DskC wr F g n gb c gm O oc L V { D with b := crashB (keptLen keep torn bytes) D.M D.b j } (D.M.map (·.1))) ∧ Hid (TS F w0 wr)) (fun i _ => D.M.length - (intOf i).toNat)
  case atStart => exact ⟨0, by omega, rfl, HP.out, TS.refl _ _⟩
  case round =>
    obtain ⟨j, hj, rfl, HC, HT⟩ := hrel
    by_cases hlt : j < D.M.length
    · have hDC := HC.out
      obtain ⟨q0, q1, q2, q3⟩ := row4 hDC.row
      obtain ⟨pj, hpj⟩ : ∃ p, D.M[j]? = some p := ⟨_, List.getElem?_eq_getElem hlt⟩
      have HPJ := Lib.hid hpj
      have hpm := HM.out pj (List.mem_of_getElem? hpj)
      obtain ⟨kj, xj⟩ := pj
      simp only at hpm
      obtain ⟨kn, rfl⟩ : ∃ kn : Nat, kj = (kn : Int) := ⟨kj.toNat, by omega⟩
      have hkn : kn < n := by omega
      have HXJ := Lib.hid hpm.2.2
      -- the order's j-th
      have hordr := (OwnV.info hDC.order).2.2.1
      obtain ⟨ob, oo, rfl, hob, hocell⟩ := hordr.form (by simp; omega)
      have hoj := hocell j (by simpa using hlt)
      rw [show ((D.M.map (·.1)).map fun k => Value.int .i64 k)[j]'(by simpa using hlt) = .int .i64 (kn : Int) from by
        rw [List.getElem_map, List.getElem_map]
        have := HPJ.out
        rw [List.getElem?_eq_getElem hlt] at this
        simp only [Option.some.injEq] at this
        rw [this]] at hoj
      -- the cached bytes
      have hcg := cget_at hDC.nodupM HPJ.out
      simp only at hcg
      rcases hDC.vals.get (kn : Int) with ⟨-, e2⟩ | ⟨A2, c2, x2, e1, e2, hr2, k1, k2, k3⟩
      · rw [e2] at hcg; cases hcg
      · rw [show cget D.M (kn : Int) = some x2 from e2] at hcg
        obtain rfl : x2 = xj := by cases hcg; rfl
        have hlk : (Instr.lookup 97 (.map (some gm)) (.int .i64 (kn : Int)) false).run Try.prog wr = .ok (.slice A2 512 c2) wr := by
          have := map_lookup Try.underlying97 Try.underlying3 hDC.map (kn : Int) false (zeroB wr)
          rw [e1] at this
          simpa [HXJ.out] using this
        have HR2 := Lib.hid hr2
        have HC2 := Lib.hid (show 512 ≤ c2 from by rw [← HXJ.out]; exact k1)
        have hbrow : wr.heap[w.heap.size]? = some (.cells #[.slice KA keep.length kc, .int .i64 torn, .int .i64 bytes] 52 (0, 0)) := by
          rw [HT.out.block w.heap.size (Array.getElem?_eq_some_iff.1 HBX.out).1 HNB.out]; exact HBX.out
        obtain ⟨b0, b1, b2⟩ := row3 hbrow
        have HBR := Lib.hid hbrow
        have hjx : (j : Int) < (D.M.length : Int) := by omega
        have hkr1 : RdV wr KA (keep.map .bool) := RdV.move HKR.out (fun a v e hc => HT.out.cell hc (by
          cases KA with
          | none => cases e
          | some ad => simp at e; rw [← e]; exact HKF.out ad rfl))
        clear hDC hordr hocell hcg e1 e2 hr2 k1 k2 k3 hpj hpm hbrow
        by_cases hto : (j : Int) = torn ∧ 0 ≤ bytes ∧ bytes ≤ 512
        · obtain ⟨kb, rfl⟩ : ∃ kb : Nat, bytes = (kb : Int) := ⟨bytes.toNat, by omega⟩
          have hto1 : ((j : Int) == torn) = true := by simpa using hto.1
          have hkb : kb ≤ 512 := by omega
          have hkbI : (kb : Int) ≤ 512 := by omega
          have HKL := Lib.hid (show keptLen keep torn (kb : Int) j = kb from by unfold keptLen; rw [if_pos hto]; simp)
          have HCUT := Lib.hid (cut_hi A2 c2 x2 kb (by rw [HXJ.out]; exact hkb) (by rw [HXJ.out]; exact HC2.out))
          rw [HXJ.out] at HCUT
          clear hto
          go_wp2_with fail
          obtain ⟨W1, hW1⟩ : ∃ W1 : World, W1 = wr := ⟨_, rfl⟩
          subst hW1
          have HGB := Lib.hid (show w.heap.size ≠ gb from fun e => HNB.out (e ▸ HC.out.mem gb (by simp [dctl])))
          refine region_sch (E := TB (gb)) (((0, true) :: (1, true) :: (3, true) :: (4, true) :: (5, true) :: (6, true) :: (2, false) :: (7, false) :: [])) (by kernel_rfl) (TB.refl _) (fun _ _ _ h k => TB.trans h k) (fun _ _ d _ _ h => by cases d <;> exact h) (by kernel_rfl) ?_
          intro ops hops0
          have hops := Lib.hid hops0
          clear hops0
          have HF : TB (gb) W1 W1.drew := TB.of (FB.refl _).drew
          have HD : FB W1 W1.drew := (FB.refl _).drew
          generalize W1.drew = wF1 at *
          have HC4 := Lib.hid (HC.out.fb HD)
          have HBR4 := Lib.hid ((HD.block w.heap.size (Array.getElem?_eq_some_iff.1 HBR.out).1).trans HBR.out)
          have HR24 := Lib.hid (HD.rd HR2.out)
          repeat (refine sch_take (o := ?_) (v := ?_) (a' := ?_) (at_of hops.out ?_) ?_ (fun W hW => ?_) ?_ ?_; rotate_left 3; (focus (simp only [List.getElem?_toArray, List.getElem?_cons_zero, List.getElem?_cons_succ]; rfl)); (focus (rw [hops.out]; rfl)); (focus (obtain ⟨u0, u1, u2⟩ := row3 ((hW.out.block w.heap.size (Array.getElem?_eq_some_iff.1 HBR4.out).1 (fun e => HGB.out (by cases e; rfl))).trans HBR4.out); have u3 := HCUT.out W; go_simp; with_reducible rfl)); (focus (simp only [Act.put, List.setIfInBounds_toArray, List.set_cons_zero, List.set_cons_succ]; rfl)))
          have HWH := Lib.hid (HC4.out.whole ⟨crashB_len HOK.out.len HOK.out.M j, HOK.out.n1, HOK.out.n2, HOK.out.M, HOK.out.f⟩)
          have HQ0 := Lib.hid (row4 HC4.out.row).1
          (refine sch_call (o := ?_) (f := ?_) (args := ?_) (at_of hops.out ?_) ?_ ?_ ?_; rotate_left 3; (focus (simp only [List.getElem?_toArray, List.getElem?_cons_zero, List.getElem?_cons_succ]; rfl)); (focus (rw [hops.out]; rfl)); (focus (go_simp; constructor <;> with_reducible rfl)); (first | ((with_reducible refine (dsk_sector HWH.out kn hkn).mono ?_); rintro e w' ⟨gb2, c3, rfl, k1, k2, -, hc0, rfl⟩; refine ⟨_, rfl, TB.refl _ _, ?_⟩; intro a' ha'; simp only [Act.put, List.setIfInBounds_toArray, List.set_cons_zero, List.set_cons_succ] at ha'; subst ha')))
          obtain ⟨rfl, hcc⟩ : gb2 = gb ∧ c = c3 + 512 * kn := by
            have := HQ0.out
            rw [this] at hc0
            simp only [Option.some.injEq, Value.slice.injEq, Addr.mk.injEq] at hc0
            exact ⟨hc0.1.1.symm, hc0.2.2⟩
          have hbl := crashB_len (f := keptLen keep torn (kb : Int)) HOK.out.len HOK.out.M j
          obtain ⟨w6, hrun, hown, htb⟩ := run_copy_sec HC4.out.bytes (512 * kn) 512 c3 A2 c2 (x2.take kb) (HR24.out.take kb) (by rw [List.length_take]; omega) (by rw [List.length_take, HXJ.out]; simp only; omega)
          have hlk : (x2.take kb).length = kb := by rw [List.length_take, HXJ.out]; omega
          rw [hlk] at hrun
          (refine sch_copy (o := ?_) (at_of hops.out ?_) ?_ (.tmp 44) (.tmp 48) 22 22 ?_ _ _ ?_ ?_ hrun htb ?_; rotate_left 1; (focus (simp only [List.getElem?_toArray, List.getElem?_cons_zero, List.getElem?_cons_succ]; rfl)); (focus (rw [hops.out]; rfl)); (focus rfl); (focus rfl); (focus rfl))
          refine sch_done ?_
          obtain ⟨hd6, ht6⟩ := HC4.out.copied _ hown htb
          have HD6 := Lib.hid (show DskC w6 F g n gb2 c gm (some ⟨ob, oo, none⟩) oc L V { D with b := crashB (keptLen keep torn (kb : Int)) D.M D.b (j + 1) } (D.M.map (·.1)) from by
            rw [crashB, HPJ.out]
            simp only [Int.toNat_natCast]
            rw [HKL.out]; exact hd6)
          have HT6 := Lib.hid (HT.out.then ((TS.of HD).then ht6))
          clear hops hrun hown htb hd6 ht6 hbl hc0 hcc
          go_wp2
          go_roundw
          case rel => exact ⟨j + 1, by omega, by go_num, HD6.out, HT6.out⟩
          case measure => simp [intOf]; omega
        · by_cases hke : keep.getD j false = true
          · have hjk : j < keep.length := by
              by_cases h : j < keep.length
              · exact h
              · rw [List.getD_eq_getElem?_getD, List.getElem?_eq_none (by omega)] at hke; cases hke
            have HKL := Lib.hid (show keptLen keep torn bytes j = 512 from by unfold keptLen; rw [if_neg hto, if_pos hke])
            obtain ⟨kb0, ko, rfl, hkb0, hkcell⟩ := hkr1.form (by simp; omega)
            have hkj := hkcell j (by simpa using hjk)
            rw [show (keep.map Value.bool)[j]'(by simpa using hjk) = .bool true from by
              rw [List.getElem_map]
              rw [List.getD_eq_getElem?_getD, List.getElem?_eq_getElem hjk] at hke
              simpa using hke] at hkj
            have hjk2 : (j : Int) < (keep.length : Int) := by omega
            have HWH := Lib.hid (HC.out.whole ⟨crashB_len HOK.out.len HOK.out.M j, HOK.out.n1, HOK.out.n2, HOK.out.M, HOK.out.f⟩)
            have HQ0 := Lib.hid (row4 HC.out.row).1
            have hcs : ((j : Int) == torn) = false ∨ (((j : Int) == torn) = true ∧ ¬ 0 ≤ bytes) ∨ (((j : Int) == torn) = true ∧ 0 ≤ bytes ∧ ¬ bytes ≤ 512) := by
              by_cases h1 : (j : Int) = torn
              · by_cases h2 : 0 ≤ bytes
                · exact .inr (.inr ⟨by simpa using h1, h2, fun h3 => hto ⟨h1, h2, h3⟩⟩)
                · exact .inr (.inl ⟨by simpa using h1, h2⟩)
              · exact .inl (by simpa using h1)
            clear hto hke hkcell
            rcases hcs with h1 | ⟨h1, h2⟩ | ⟨h1, h2, h3⟩
            all_goals
              go_wp2_with fail
              refine (dsk_sector HWH.out kn hkn).mono ?_
              rintro e w' ⟨gb2, c3, rfl, k1, k2, -, hc0, rfl⟩
              obtain ⟨rfl, hcc⟩ : gb2 = gb ∧ c = c3 + 512 * kn := by
                have := HQ0.out
                rw [this] at hc0
                simp only [Option.some.injEq, Value.slice.injEq, Addr.mk.injEq] at hc0
                exact ⟨hc0.1.1.symm, hc0.2.2⟩
              have hbl := crashB_len (f := keptLen keep torn bytes) HOK.out.len HOK.out.M j
              obtain ⟨w6, hrun, hown, htb⟩ := run_copy_sec HC.out.bytes (512 * kn) 512 c3 A2 c2 x2 HR2.out (by rw [HXJ.out]; exact Nat.le_refl _) (by rw [HXJ.out]; simp only; omega)
              rw [HXJ.out] at hrun
              obtain ⟨hd6, ht6⟩ := HC.out.copied _ hown htb
              have HD6 := Lib.hid (show DskC w6 F g n gb2 c gm (some ⟨ob, oo, none⟩) oc L V { D with b := crashB (keptLen keep torn bytes) D.M D.b (j + 1) } (D.M.map (·.1)) from by
                rw [crashB, HPJ.out]
                simp only [Int.toNat_natCast]
                rw [HKL.out, List.take_of_length_le (by rw [HXJ.out]; exact Nat.le_refl _)]; exact hd6)
              have HT6 := Lib.hid (HT.out.then ht6)
              clear hown htb hd6 ht6 hbl hc0 hcc
              go_wp2_with (refine wpList_copy_by rfl _ _ _ _ rfl _ _ rfl rfl hrun ?_)
              go_roundw
              case rel => exact ⟨j + 1, by omega, by go_num, HD6.out, HT6.out⟩
              case measure => simp [intOf]; omega
          · have HKL := Lib.hid (show keptLen keep torn bytes j = 0 from by unfold keptLen; rw [if_neg hto, if_neg hke])
            have HD6 := Lib.hid (show DskC wr F g n gb c gm (some ⟨ob, oo, none⟩) oc L V { D with b := crashB (keptLen keep torn bytes) D.M D.b (j + 1) } (D.M.map (·.1)) from by
              rw [crashB, HPJ.out]
              simp only [Int.toNat_natCast]
              rw [HKL.out, List.take_zero, show splice (crashB (keptLen keep torn bytes) D.M D.b j) (512 * kn) [] = crashB (keptLen keep torn bytes) D.M D.b j from by simp [splice]]; exact HC.out)
            have HT6 := Lib.hid HT.out
            have hcs : ((j : Int) == torn) = false ∨ (((j : Int) == torn) = true ∧ ¬ 0 ≤ bytes) ∨ (((j : Int) == torn) = true ∧ 0 ≤ bytes ∧ ¬ bytes ≤ 512) := by
              by_cases h1 : (j : Int) = torn
              · by_cases h2 : 0 ≤ bytes
                · exact .inr (.inr ⟨by simpa using h1, h2, fun h3 => hto ⟨h1, h2, h3⟩⟩)
                · exact .inr (.inl ⟨by simpa using h1, h2⟩)
              · exact .inl (by simpa using h1)
            by_cases hjk : j < keep.length
            · obtain ⟨kb0, ko, rfl, hkb0, hkcell⟩ := hkr1.form (by simp; omega)
              have hkj := hkcell j (by simpa using hjk)
              rw [show (keep.map Value.bool)[j]'(by simpa using hjk) = .bool false from by
                rw [List.getElem_map]
                rw [List.getD_eq_getElem?_getD, List.getElem?_eq_getElem hjk] at hke
                simpa using hke] at hkj
              have hjk2 : (j : Int) < (keep.length : Int) := by omega
              clear hto hke hkcell
              rcases hcs with h1 | ⟨h1, h2⟩ | ⟨h1, h2, h3⟩
              all_goals
                go_wp2
                go_roundw
                case rel => exact ⟨j + 1, by omega, by go_num, HD6.out, HT6.out⟩
                case measure => simp [intOf]; omega
            · have hjk2 : ¬ (j : Int) < (keep.length : Int) := by omega
              clear hto hke hjk
              rcases hcs with h1 | ⟨h1, h2⟩ | ⟨h1, h2, h3⟩
              all_goals
                go_wp2
                go_roundw
                case rel => exact ⟨j + 1, by omega, by go_num, HD6.out, HT6.out⟩
                case measure => simp [intOf]; omega
    · obtain rfl : j = D.M.length := by omega
      have hDC := HC.out
      obtain ⟨q0, q1, q2, q3⟩ := row4 hDC.row
      obtain ⟨w2, hcl, hm2, htb2⟩ := map_clear Try.underlying97 hDC.map 0
      obtain ⟨hrow2, hD2, hT2⟩ := hDC.cleared ⟨crashB_len HOK.out.len HOK.out.M _, HOK.out.n1, HOK.out.n2, HOK.out.M, HOK.out.f⟩ hm2 htb2
      obtain ⟨s0, s1, s2, s3⟩ := row4 hrow2
      have sf2 := frozen_row _ hrow2 2
      obtain ⟨f3, ⟨pp, t3⟩, hD3, hT3⟩ := hD2.unfuse
      have HD3 := Lib.hid hD3
      have HT3 := Lib.hid (HT0.out.then (HT.out.then (hT2.then hT3)))
      clear hDC hrow2 hD2 hT2 hD3 hT3 hm2 htb2
      go_wp2_with (refine wpList_clear_run rfl _ _ rfl _ rfl hcl ?_)
      go_ret
      exact ⟨rfl, HD3.out, HT3.out⟩
end Go.Proofs.Ytihljjfnjclefaa
/- Sectors: the walks through row, slices.Clone of ints, Cached, tallymankit.Ints. -/
set_option linter.unusedVariables false
set_option linter.unusedSimpArgs false
namespace Go.Proofs.Ytihljjfnjclefaa
open Go.ChangeShapes Go.WideShapes Go.ChangeAt Go.RowKit Go.MapKept
attribute [local go_sem] nb_nonneg nb_lt8

theorem Own.cellset0 {w : World} {base n g : Nat} {c : Nat} {xs : List Byte} (h : Own w base (.slice (some ⟨g, 0, none⟩) n c) xs) {j : Nat} (hj : j < xs.length) :
    w.cell? ⟨g, j, none⟩ = some (vb xs[j]) ∧ w.frozen? ⟨g, j, none⟩ = false ∧ ∀ b : Byte, Own (w.setCell ⟨g, j, none⟩ (vb b)) base (.slice (some ⟨g, 0, none⟩) n c) (xs.set j b) := by
  obtain ⟨_, _, h3, hn, _⟩ := Own.info h
  subst hn
  have hr := h
  unfold Own OwnV at hr
  rw [vbs_length] at hr
  refine ⟨?_, World.ownsRow.frozenAt hr j, fun b => ?_⟩
  · rw [World.ownsRow.cellAt hr j (by omega), vbs_get? xs j hj]
  · have := (World.ownsRow.stored hr j (vb b)).1
    unfold Own OwnV
    rw [vbs_length, List.length_set, show vbs (xs.set j b) = (vbs xs).set j (vb b) from by simp [vbs, List.map_set]]
    exact this
theorem fill_set (v : Byte) (j n : Nat) (h : j < n) : (List.replicate j v ++ List.replicate (n - j) 0#8).set j v = List.replicate (j + 1) v ++ List.replicate (n - (j + 1)) 0#8 := by
  rw [List.set_append_right _ _ (by simp), List.length_replicate, Nat.sub_self, show n - j = (n - (j + 1)) + 1 by omega, List.replicate_succ, List.set_cons_zero, List.replicate_succ' (n := j), List.append_assoc]; rfl
/-- The order, as Cached returns it. -/
theorem Dsk.ordr {w : World} {F : List Nat} {g n : Nat} {D : DiskSt} (h : Dsk w F g n D) : ∃ O oc, w.cell? ⟨g, 2, none⟩ = some (.slice O D.M.length oc) ∧ RdV w O ((D.M.map (·.1)).map (.int .i64)) := by
  obtain ⟨gb, c, gm, O, oc, L, V, hp⟩ := h.parts
  have h2 := (row4 hp.row).2.2.1
  rw [List.length_map] at h2
  exact ⟨O, oc, h2, (OwnV.info hp.order).2.2.1⟩
end Go.Proofs.Ytihljjfnjclefaa
/- page over a disk: the walks through Pages, right, Load, Save. -/
set_option linter.unusedVariables false
set_option linter.unusedSimpArgs false
namespace Go.Proofs.Ytihljjfnjclefaa
open Go.ChangeShapes Go.WideShapes Go.ChangeAt Go.RowKit Go.MapKept

theorem TS.grown {w w' : World} {row : Option Nat} (h : w.grownBy w' row) : TS row.toList w w' :=
  ⟨h.os, h.tape, h.output, h.size, fun k hk hm => h.block k hk (fun e => hm (by rw [← e]; simp))⟩
theorem div8 (n : Nat) : ((n : Int)).tdiv 8 = ((n / 8 : Nat) : Int) := by rw [Int.tdiv_eq_ediv_of_nonneg (by omega)]; omega
set_option maxRecDepth 100000 in
set_option maxHeartbeats 400000 in
theorem pg_Pages {w : World} {F : List Nat} {g n : Nat} {D : DiskSt} (h : Dsk w F g n D) :
    Calls Try.prog 45 #[.pointer (some ⟨g, 0, none⟩)] w fun e w' => e = .returned (.int .i64 ((n / 8 : Nat) : Int)) ∧ w = w' := by
  have H := Lib.hid h
  have hd := div8 n
  have hn := h.ok.n2
  have hwr : IntKind.i64.wrap (((n / 8 : Nat) : Int)) = ((n / 8 : Nat) : Int) := by rw [IntKind.wrap_i64]; omega
  clear h
  generalize hm : n / 8 = m at *
  clear hm
  go_enter Try.func45, Try.ntmps45
  go_wp2_with fail
  refine (dsk_Sectors H.out).mono ?_
  rintro e w1 ⟨rfl, rfl⟩
  go_wp2
  go_ret
  first | exact ⟨rfl, rfl⟩ | exact ⟨by simp [hd], rfl⟩
def pgOut (n : Nat) (k : Int) : Prop := k < 0 ∨ ((n / 8 : Nat) : Int) ≤ k
instance (n : Nat) (k : Int) : Decidable (pgOut n k) := inferInstanceAs (Decidable (_ ∨ _))
set_option maxRecDepth 100000 in
set_option maxHeartbeats 400000 in
theorem pg_right {w : World} {F : List Nat} {g n : Nat} {D : DiskSt} (h : Dsk w F g n D) (k : Int) :
    Calls Try.prog 67 #[.pointer (some ⟨g, 0, none⟩), .int .i64 k] w fun e w' => e = .returned (.int .i64 (if pgOut n k then 2 else 0)) ∧ w = w' := by
  have H := Lib.hid h
  have hn := h.ok.n1
  have hn0 : ((n : Int) == 0) = false := by simp; omega
  clear h
  by_cases hneg : k < 0
  · rw [if_pos (.inl hneg)]
    go_enter Try.func67, Try.ntmps67
    go_wp2_with fail
    refine (dsk_Sectors H.out).mono ?_
    rintro e w1 ⟨rfl, rfl⟩
    go_wp2
    go_ret
    exact ⟨rfl, rfl⟩
  · by_cases hbig : ((n / 8 : Nat) : Int) ≤ k
    · rw [if_pos (.inr hbig)]
      have HB := Lib.hid hbig
      clear hbig
      go_enter Try.func67, Try.ntmps67
      go_wp2_with fail
      refine (dsk_Sectors H.out).mono ?_
      rintro e w1 ⟨rfl, rfl⟩
      go_wp2_with fail
      refine (pg_Pages H.out).mono ?_
      rintro e w1 ⟨rfl, rfl⟩
      have hbig := HB.out
      generalize ((n / 8 : Nat) : Int) = m at *
      go_wp2
      go_ret
      exact ⟨rfl, rfl⟩
    · rw [if_neg (by unfold pgOut; omega)]
      have HB := Lib.hid hbig
      clear hbig
      go_enter Try.func67, Try.ntmps67
      go_wp2_with fail
      refine (dsk_Sectors H.out).mono ?_
      rintro e w1 ⟨rfl, rfl⟩
      go_wp2_with fail
      refine (pg_Pages H.out).mono ?_
      rintro e w1 ⟨rfl, rfl⟩
      have hbig := HB.out
      generalize ((n / 8 : Nat) : Int) = m at *
      go_wp2
      go_ret
      exact ⟨rfl, rfl⟩
/-- The sectors of a page, one by one. -/
def ldF (n : Nat) (k : Int) : Nat → Nat → List Byte → DiskSt → List Byte × Int × DiskSt
  | 0, _, out, D => (out, 0, D)
  | r + 1, i, out, D => if (sdRead D n (k * 8 + i)).2.1 = 0 then ldF n k r (i + 1) (out ++ (sdRead D n (k * 8 + i)).1) (sdRead D n (k * 8 + i)).2.2 else ([], (sdRead D n (k * 8 + i)).2.1, (sdRead D n (k * 8 + i)).2.2)
def sdLoad (D : DiskSt) (n : Nat) (k : Int) : List Byte × Int × DiskSt := if pgOut n k then ([], 2, D) else ldF n k 8 0 [] D
theorem sec_le (b : List Byte) (k : Nat) : (sec b k).length ≤ 512 := by unfold sec; rw [List.length_take]; omega
theorem cget_len {M : List (Int × List Byte)} {m : Nat} (hM : ∀ p ∈ M, p.2.length ≤ m) {k : Int} {x : List Byte} (h : cget M k = some x) : x.length ≤ m := by
  induction M with
  | nil => cases h
  | cons p M ih =>
    obtain ⟨k', v⟩ := p
    rw [cget] at h
    split at h
    · cases h; exact hM (k', x) (by simp)
    · exact ih (fun p hp => hM p (by simp [hp])) h
theorem sdRead_le {D : DiskSt} {n : Nat} (h : D.ok n) (k : Int) : (sdRead D n k).1.length ≤ 512 := by
  unfold sdRead
  split
  · simp
  · split
    · simp
    · simp only
      cases hc : cget D.M k with
      | none => exact sec_le _ _
      | some x => exact cget_len (fun p hp => by have := h.M p hp; omega) hc
set_option maxRecDepth 100000 in
set_option maxHeartbeats 2000000 in
theorem pg_Load {w : World} {F : List Nat} {g n : Nat} {D : DiskSt} (h : Dsk w F g n D) (k : Int) :
    Calls Try.prog 44 #[.pointer (some ⟨g, 0, none⟩), .int .i64 k] w fun e w' => ∃ A c, e = .returned (.tuple #[.slice A (sdLoad D n k).1.length c, .int .i64 (sdLoad D n k).2.1]) ∧ Rd w' A (sdLoad D n k).1 ∧ (∀ ad, A = some ad → w.heap.size ≤ ad.block) ∧ Dsk w' F g n (sdLoad D n k).2.2 ∧ TS F w w' ∧ (sdLoad D n k).1.length ≤ c ∧ c ≤ maxLen := by
  have H := Lib.hid h
  have HR := Lib.hid (pg_right h k)
  have HF := Lib.hid h.lt
  have HN := Lib.hid h.ok.n2
  obtain ⟨R, hR⟩ : ∃ R, R = sdLoad D n k := ⟨_, rfl⟩
  rw [← hR]
  unfold sdLoad at hR
  clear h
  by_cases ho : pgOut n k
  · rw [if_pos ho] at hR
    rw [if_pos ho] at HR
    subst hR
    clear ho
    go_enter Try.func44, Try.ntmps44
    go_wp2_with fail
    refine HR.out.mono ?_
    rintro e w1 ⟨rfl, rfl⟩
    go_wp2
    go_ret2
    exact ⟨none, 0, rfl, Rd.nil _ _, fun ad ha => (by cases ha), H.out, TS.refl _ _, by simp, by simp [maxLen]⟩
  · rw [if_neg ho] at hR
    rw [if_neg ho] at HR
    have HK := Lib.hid (show 0 ≤ k ∧ k < ((n / 8 : Nat) : Int) from by unfold pgOut at ho; omega)
    have HRR := Lib.hid hR
    clear ho hR
    go_enter Try.func44, Try.ntmps44
    go_wp2_with fail
    refine HR.out.mono ?_
    rintro e w1 ⟨rfl, rfl⟩
    go_wp2_with fail
    go_loopw [7, 17] (fun v i wr => ∃ (j : Nat) (out : List Byte) (D' : DiskSt), j ≤ 8 ∧ i = .int .i64 j ∧ Hid (out.length ≤ 512 * j) ∧ Hid (Own wr w.heap.size v out) ∧ Hid (Dsk wr F g n D') ∧ Hid (TS F w wr) ∧ Hid (R = ldF n k (8 - j) j out D')) (fun _ i _ => 8 - (intOf i).toNat)
    case atStart => exact ⟨0, [], D, by omega, rfl, Lib.hid (by simp), Lib.hid (Own.nil _ _), H, Lib.hid (TS.refl _ _), HRR⟩
    case round =>
      obtain ⟨j, out, D', hj, rfl, HOL, HO, HD, HT, HRJ⟩ := hrel
      by_cases hlt : j < 8
      · have hz : (j : Int) < 8 := by omega
        have hw1 : IntKind.i64.wrap (k * 8) = k * 8 := by rw [IntKind.wrap_i64]; have := HK.out; have := HN.out; omega
        have hw2 : IntKind.i64.wrap (k * 8 + (j : Int)) = k * 8 + (j : Int) := by rw [IntKind.wrap_i64]; have := HK.out; have := HN.out; omega
        have hw3 : IntKind.i64.wrap ((j : Int) + 1) = (j : Int) + 1 := by rw [IntKind.wrap_i64]; omega
        have HJ := Lib.hid hlt
        have hrj := HRJ.out
        rw [show 8 - j = (7 - j) + 1 from by omega, ldF] at hrj
        have HRJ2 := Lib.hid hrj
        have HRL := Lib.hid (sdRead_le HD.out.ok (k * 8 + (j : Int)))
        have HC := Lib.hid (dsk_Read HD.out (k * 8 + (j : Int)))
        generalize sdRead D' n (k * 8 + (j : Int)) = t at *
        obtain ⟨b, er, D2⟩ := t
        have HRL := Lib.hid (show b.length ≤ 512 from HRL.out)
        clear hlt hj hrj HRJ
        go_wp2_with fail
        refine HC.out.mono ?_
        rintro e w2 ⟨A9, c9, rfl, hr, hnew, hd, ht, hc9, hm9⟩
        try simp only at hr hd hc9
        have HR9 := Lib.hid hr
        have HD2 := Lib.hid hd
        have HT2 := Lib.hid (HT.out.then ht)
        have HOF := Lib.hid (OwnV.base HO.out)
        have HO2 := Lib.hid (ht.ownV HO.out (fun kk hk hm => by have h1 := (HOF.out kk hk).1; have := HF.out kk hm; omega))
        clear hr hnew hd ht hc9 hm9 HC HO HD HT
        by_cases he : er = 0
        · subst he
          have hrj := HRJ2.out
          rw [if_pos rfl] at hrj
          have HRJ3 := Lib.hid hrj
          clear hrj HRJ2
          go_wp2_with (at_builtin; refine wpList_append_bytes rfl _ _ rfl w.heap.size _ out HO2.out rfl A9 c9 b rfl HR9.out (by have := HRL.out; have := HOL.out; have := HJ.out; omega) HT2.out.size ?_; intro v' w3 ho hg hob; have HO3 := Lib.hid ho; have HG := Lib.hid hg; clear ho hg hob)
          have HD3 := Lib.hid (HD2.out.ts (TS.grown HG.out) (fun x hx hm => by have h1 := (HOF.out x (by simpa using hx)).1; have := HF.out x hm; omega))
          have HT3 := Lib.hid (HT2.out.trans (TS.grown HG.out) (fun x hx => .inr (HOF.out x (by simpa using hx)).1))
          go_roundw
          case rel => exact ⟨j + 1, out ++ b, D2, by have := HJ.out; omega, by go_num, Lib.hid (by rw [List.length_append]; have := HRL.out; have := HOL.out; omega), HO3, HD3, HT3, Lib.hid (by rw [show 8 - (j + 1) = 7 - j by omega]; exact HRJ3.out)⟩
          case measure => (show 8 - ((j : Int) + 1).toNat < 8 - ((j : Int)).toNat; have := HJ.out; omega)
        · have heb : (er != 0) = true := by simpa using he
          have hrj := HRJ2.out
          rw [if_neg he] at hrj
          have HRJ3 := Lib.hid hrj
          clear hrj HRJ2 he
          go_wp2
          go_ret2
          rw [HRJ3.out]
          exact ⟨none, 0, rfl, Rd.nil _ _, fun ad ha => (by cases ha), HD2.out, HT2.out, by simp, by simp [maxLen]⟩
      · obtain rfl : j = 8 := by omega
        have hq := HRJ.out
        rw [ldF] at hq
        have HQ := Lib.hid hq
        obtain ⟨A7, c7, rfl, h1, h2, h3, h4⟩ := Own.form HO.out
        have HE := Lib.hid (And.intro (And.intro h1 h2) (And.intro h3 h4))
        clear hq HRJ HO h1 h2 h3 h4
        go_wp2
        go_ret2
        rw [HQ.out]
        exact ⟨A7, c7, rfl, HE.out.2.1, fun ad ha => (HE.out.2.2 ad ha).1, HD.out, HT.out, HE.out.1.1, HE.out.1.2⟩
end Go.Proofs.Ytihljjfnjclefaa
/- page over a disk: the walk through Save. -/
set_option linter.unusedVariables false
set_option linter.unusedSimpArgs false
namespace Go.Proofs.Ytihljjfnjclefaa
open Go.ChangeShapes Go.WideShapes Go.ChangeAt Go.RowKit Go.MapKept

def svF (n : Nat) (k : Int) (xs : List Byte) : Nat → Nat → DiskSt → Int × DiskSt
  | 0, _, D => (0, D)
  | r + 1, i, D => if (sdWrite D n (k * 8 + i) (sec xs i)).1 = 0 then svF n k xs r (i + 1) (sdWrite D n (k * 8 + i) (sec xs i)).2 else sdWrite D n (k * 8 + i) (sec xs i)
def sdSave (D : DiskSt) (n : Nat) (k : Int) (xs : List Byte) : Int × DiskSt := if pgOut n k ∨ xs.length ≠ 4096 then (2, D) else svF n k xs 8 0 D
set_option maxRecDepth 100000 in
theorem pg_SaveD (p q : Addr) (v z : Int) (w : World) (hc : w.cell? p = some (.int .i64 v)) (hq : w.cell? q = some (.int .i64 z)) (hz : w.frozen? q = false) :
    CallsD Try.prog 69 #[.pointer (some p), .pointer (some q)] .returning w fun e u' w' => u' = .returning ∧ (e = .returned (.tuple #[]) ∧ w' = w.setCell q (.int .i64 v)) := by
  go_enter_d Try.func69, Try.ntmps69
  go_wp2
  go_end0
  exact ⟨rfl, rfl⟩
theorem row1 {W : World} {g : Nat} {a : Value} {t : TypeId} {fr : Nat × Nat} (h : W.heap[g]? = some (.cells #[a] t fr)) : W.cell? ⟨g, 0, none⟩ = some a := by rw [cell_of_row _ _ _ _ _ _ h]; rfl
set_option maxRecDepth 100000 in
theorem sv_door {w W : World} {F F2 : List Nat} {g n : Nat} {D2 : DiskSt} {er : Int} {a : Act} {R : Int × DiskSt} (hR : R = (er, D2))
    (h8 : W.heap[w.heap.size + 1]? = some (.cells #[.int .i64 er] 23 (0, 0))) (h6 : W.heap[w.heap.size]? = some (.cells #[.int .i64 0] 23 (0, 0)))
    (hd : Dsk W F2 g n D2) (hf : ∀ x ∈ F2, x ∈ F ∨ w.heap.size + 2 ≤ x) (hF : ∀ x ∈ F, x < w.heap.size) (ht : TS F w W)
    (ha : a.defers = [{ target := .fn (.func 69) #[.pointer (some ⟨w.heap.size + 1, 0, none⟩), .pointer (some ⟨w.heap.size, 0, none⟩)], args := #[] }]) (h6s : a.tmps[6]?.getD undef = .pointer (some ⟨w.heap.size, 0, none⟩)) :
    bodyPostD Try.prog Try.f47 (fun e w' => e = .returned (.int .i64 R.1) ∧ DskRes w F g n R.2 w') .ret a (W.setCell ⟨w.heap.size, 0, none⟩ (.int .i64 er)) := by
  subst hR
  show Leaves _ _ a.tmps _ a.defers .returning _
  rw [ha]
  refine leaves_cons (f := 69) (args := #[.pointer (some ⟨w.heap.size + 1, 0, none⟩), .pointer (some ⟨w.heap.size, 0, none⟩)]) (by simp) (by simp [go_sem]) ?_
  have hne : ∀ {U : World} {v : Value} , TS [w.heap.size] U (U.setCell ⟨w.heap.size, 0, none⟩ v) := fun {U v} => TS.tb (TB.set U 0 v) (by simp)
  have k6 : (W.setCell ⟨w.heap.size, 0, none⟩ (.int .i64 er)).heap[w.heap.size]? = some (.cells #[.int .i64 er] 23 (0, 0)) := by rw [heap_setCell_same _ _ 0 _ _ _ h6]; rfl
  have k8 := ((hne (U := W) (v := .int .i64 er)).block _ (Array.getElem?_eq_some_iff.1 h8).1 (by simp)).trans h8
  refine (pg_SaveD ⟨w.heap.size + 1, 0, none⟩ ⟨w.heap.size, 0, none⟩ er er _ (row1 k8) (row1 k6) (frozen_row _ k6 0)).mono ?_
  rintro e u' w'' ⟨rfl, rfl, rfl⟩
  have m6 : ((W.setCell ⟨w.heap.size, 0, none⟩ (.int .i64 er)).setCell ⟨w.heap.size, 0, none⟩ (.int .i64 er)).heap[w.heap.size]? = some (.cells #[.int .i64 er] 23 (0, 0)) := by rw [heap_setCell_same _ _ 0 _ _ _ k6]; rfl
  have hn : ∀ x ∈ [w.heap.size], x ∉ F2 := fun x hx hm => by
    simp only [List.mem_singleton] at hx; subst hx
    rcases hf _ hm with h | h
    · have := hF _ h; omega
    · omega
  refine ⟨.int .i64 er, ?_, rfl, F2, fun x hx => (hf x hx).imp id (fun h => by omega), (hd.ts hne hn).ts hne hn, (ht.trans hne (fun x hx => .inr (by simp at hx; omega))).trans hne (fun x hx => .inr (by simp at hx; omega))⟩
  have hc := row1 m6
  simp [results, Try.results47, go_sem, h6s, hc]
set_option maxRecDepth 100000 in
set_option maxHeartbeats 4000000 in
theorem pg_Save {w : World} {F : List Nat} {g n : Nat} {D : DiskSt} (h : Dsk w F g n D) (k : Int) (A : Option Addr) (ca : Nat) (xs : List Byte) (hl : xs.length ≤ 100000000000) (hca : xs.length ≤ ca) (hr : Rd w A xs) (hAF : ∀ ad, A = some ad → ad.block ∉ F) :
    Calls Try.prog 47 #[.pointer (some ⟨g, 0, none⟩), .int .i64 k, .slice A xs.length ca] w fun e w' => e = .returned (.int .i64 (sdSave D n k xs).1) ∧ DskRes w F g n (sdSave D n k xs).2 w' := by
  have hmf : ∀ (fn : Fn) (first cap : Array Value) (w : World), (Instr.makeFunc fn first cap).run Try.prog w = .ok (.func fn first cap) w := fun _ _ _ _ => rfl
  have HR := Lib.hid (pg_right (h.fb ((FB.refl w).alloc (.cells #[.int .i64 0] 23))) k)
  have HF := Lib.hid h.lt
  have HN := Lib.hid h.ok.n2
  have H0 := Lib.hid h
  have HX := Lib.hid hr
  have HAF := Lib.hid hAF
  obtain ⟨R, hR⟩ : ∃ R, R = sdSave D n k xs := ⟨_, rfl⟩
  rw [← hR]
  unfold sdSave at hR
  clear h hr hAF
  by_cases ho : pgOut n k
  · rw [if_pos (.inl ho)] at hR
    rw [if_pos ho] at HR
    subst hR
    clear ho hl hca
    go_enter_defers Try.func47, Try.ntmps47
    go_wp2_with fail
    refine HR.out.mono ?_
    rintro e w1 ⟨rfl, rfl⟩
    go_wp2
    refine ⟨.int .i64 2, ?_, rfl, F, fun x hx => .inl hx, H0.out.fb ((FB.refl w).alloc _), TS.of ((FB.refl w).alloc _)⟩
    simp [results, Try.results47, go_sem]
  · rw [if_neg ho] at HR
    have HK := Lib.hid (show 0 ≤ k ∧ k < ((n / 8 : Nat) : Int) from by unfold pgOut at ho; omega)
    by_cases hx : xs.length = 4096
    · rw [if_neg (by simp [ho, hx])] at hR
      have HRR := Lib.hid hR
      have HXL := Lib.hid hx
      have HCA := Lib.hid hca
      rw [hx]
      clear ho hR hx hca hl
      go_enter_defers Try.func47, Try.ntmps47
      go_wp2_with fail
      refine HR.out.mono ?_
      rintro e w1 ⟨rfl, rfl⟩
      go_wp2_with fail
      have HWA := Lib.hid (show FB w ((w.alloc (.cells #[.int .i64 0] 23)).alloc (.cells #[.int .i64 0] 23)) from ((FB.refl w).alloc _).alloc _)
      have HB6 := Lib.hid (show ((w.alloc (.cells #[.int .i64 0] 23)).alloc (.cells #[.int .i64 0] 23)).heap[w.heap.size]? = some (.cells #[.int .i64 0] 23 (0, 0)) from heap_alloc2_old _ _ _)
      have HB8 := Lib.hid (show ((w.alloc (.cells #[.int .i64 0] 23)).alloc (.cells #[.int .i64 0] 23)).heap[w.heap.size + 1]? = some (.cells #[.int .i64 0] 23 (0, 0)) from by
        have := heap_alloc_new (w.alloc (.cells #[.int .i64 0] 23)) (.cells #[.int .i64 0] 23)
        simpa using this)
      have HWS := Lib.hid (show ((w.alloc (.cells #[.int .i64 0] 23)).alloc (.cells #[.int .i64 0] 23)).heap.size = w.heap.size + 2 from by simp)
      have HD0 := Lib.hid (H0.out.fb HWA.out)
      have HX2 := Lib.hid (HWA.out.rd HX.out)
      have HXB := Lib.hid (show ∀ ad, A = some ad → ad.block < w.heap.size from fun ad ha => by
        obtain ⟨b, o, e2, h2, -⟩ := Rd.form HX.out (by have := HXL.out; omega)
        rw [ha] at e2; cases e2; exact h2)
      generalize (w.alloc (.cells #[.int .i64 0] 23)).alloc (.cells #[.int .i64 0] 23) = W2 at *
      go_loopw [20] (fun i wr => ∃ (j : Nat) (D' : DiskSt) (F' : List Nat), j ≤ 8 ∧ i = .int .i64 j ∧ Hid (Dsk wr F' g n D') ∧ Hid (∀ x ∈ F', x ∈ F ∨ w.heap.size + 2 ≤ x) ∧ Hid (TS ((w.heap.size + 1) :: F) W2 wr) ∧ Hid (wr.heap[w.heap.size + 1]? = some (.cells #[.int .i64 0] 23 (0, 0))) ∧ Hid (R = svF n k xs (8 - j) j D')) (fun i _ => 8 - (intOf i).toNat)
      case atStart => exact ⟨0, D, F, by omega, rfl, HD0, Lib.hid (fun x hx => .inl hx), Lib.hid (TS.refl _ _), HB8, HRR⟩
      case round =>
        obtain ⟨j, D', F', hj, rfl, HD, HFF, HT, HC8, HRJ⟩ := hrel
        have HWL := Lib.hid (show w.heap.size + 2 ≤ wr.heap.size from by have := HT.out.size; have := HWS.out; omega)
        have HN6 := Lib.hid (show w.heap.size ∉ (w.heap.size + 1) :: F from fun hm => by
          rcases List.mem_cons.1 hm with hm | hm
          · omega
          · have := HF.out _ hm; omega)
        have HC6 := Lib.hid ((HT.out.block _ (Array.getElem?_eq_some_iff.1 HB6.out).1 HN6.out).trans HB6.out)
        have HFN := Lib.hid (show w.heap.size ∉ F' ∧ w.heap.size + 1 ∉ F' from ⟨fun hm => by
            rcases HFF.out _ hm with hm | hm
            · have := HF.out _ hm; omega
            · omega, fun hm => by
            rcases HFF.out _ hm with hm | hm
            · have := HF.out _ hm; omega
            · omega⟩)
        by_cases hlt : j < 8
        · have hz : (j : Int) < 8 := by omega
          have HJ := Lib.hid hlt
          have hw1 : IntKind.i64.wrap (k * 8) = k * 8 := by rw [IntKind.wrap_i64]; have := HK.out; have := HN.out; omega
          have hw2 : IntKind.i64.wrap (k * 8 + (j : Int)) = k * 8 + (j : Int) := by rw [IntKind.wrap_i64]; have := HK.out; have := HN.out; omega
          have hw3 : IntKind.i64.wrap ((j : Int) + 1) = (j : Int) + 1 := by rw [IntKind.wrap_i64]; omega
          obtain ⟨kk, hkk⟩ : ∃ kk, kk = 512 * j := ⟨_, rfl⟩
          have hw4 : IntKind.i64.wrap ((j : Int) * 512) = (kk : Int) := by rw [IntKind.wrap_i64]; omega
          have hw5 : IntKind.i64.wrap (((j : Int) + 1) * 512) = (kk : Int) + 512 := by rw [IntKind.wrap_i64]; omega
          obtain ⟨A34, hcut, hcr, hcb⟩ := cut_at A ca xs kk 512 (by rw [HXL.out]; omega) HCA.out
          rw [HXL.out] at hcut
          have hcut : ∀ W, (Instr.slice 22 (.slice A 4096 ca) (some (.int .i64 (kk : Int))) (some (.int .i64 ((kk : Int) + 512))) none).run Try.prog W = .ok (.slice A34 512 (ca - kk)) W := hcut
          have hsl : (sec xs j).length = 512 := sec_len (n := 8) HXL.out hlt
          have hrs : Rd wr A34 (sec xs j) := by
            have := hcr wr (HT.out.rd HX2.out (fun ad ha hm => by
              rcases List.mem_cons.1 hm with hm | hm
              · have := HXB.out ad ha; omega
              · exact HAF.out ad ha hm))
            rw [hkk] at this
            exact this
          have hA34 : ∀ ad, A34 = some ad → ad.block < w.heap.size ∧ ad.block ∉ F := fun ad ha => by
            have hq := hcb (by have := HCA.out; have := HXL.out; omega)
            rw [hq] at ha
            cases A with
            | none => cases ha
            | some a0 =>
              have hb0 : ad.block = a0.block := by
                simp only [Option.map_some, Option.some.injEq] at ha
                rw [← ha]; unfold Addr.add; split <;> rfl
              rw [hb0]
              exact ⟨HXB.out a0 rfl, HAF.out a0 rfl⟩
          have HC := Lib.hid (dsk_Write HD.out (k * 8 + (j : Int)) A34 512 (ca - kk) (sec xs j) hsl.symm (by rw [hsl]; omega) hrs (fun ad ha hm => by
            rcases HFF.out _ hm with hm | hm
            · exact (hA34 ad ha).2 hm
            · have := (hA34 ad ha).1; omega))
          have hrj := HRJ.out
          rw [show 8 - j = (7 - j) + 1 from by omega, svF] at hrj
          have HRJ2 := Lib.hid hrj
          generalize sdWrite D' n (k * 8 + (j : Int)) (sec xs j) = t at *
          obtain ⟨er, D2⟩ := t
          clear hrj HRJ hcr hcb hsl hrs hA34 hkk hlt hj
          go_wp2_with fail
          refine HC.out.mono ?_
          rintro e w2 ⟨rfl, F2, hf2, hd2, ht2⟩
          have HD2 := Lib.hid hd2
          have HF2 := Lib.hid (show ∀ x ∈ F2, x ∈ F ∨ w.heap.size + 2 ≤ x from fun x hx => by
            rcases hf2 x hx with h | h
            · exact HFF.out x h
            · right; have := HWL.out; omega)
          have HT2 := Lib.hid (HT.out.trans ht2 (fun x hx => by
            rcases HFF.out x hx with h | h
            · exact .inl (List.mem_cons_of_mem _ h)
            · right; have := HWS.out; omega))
          have HC82 := Lib.hid ((ht2.block _ (Array.getElem?_eq_some_iff.1 HC8.out).1 HFN.out.2).trans HC8.out)
          have HC62 := Lib.hid ((ht2.block _ (Array.getElem?_eq_some_iff.1 HC6.out).1 HFN.out.1).trans HC6.out)
          have HFN2 := Lib.hid (show w.heap.size ∉ F2 ∧ w.heap.size + 1 ∉ F2 from ⟨fun hm => by
            rcases HF2.out _ hm with hm | hm
            · have := HF.out _ hm; omega
            · omega, fun hm => by
            rcases HF2.out _ hm with hm | hm
            · have := HF.out _ hm; omega
            · omega⟩)
          have q8 := row1 HC82.out
          have f8 := frozen_row _ HC82.out 0
          have HC83 := Lib.hid (show (w2.setCell ⟨w.heap.size + 1, 0, none⟩ (.int .i64 er)).heap[w.heap.size + 1]? = some (.cells #[.int .i64 er] 23 (0, 0)) from by
            rw [heap_setCell_same _ _ 0 _ _ _ HC82.out]; rfl)
          have HTB := Lib.hid (show TS [w.heap.size + 1] w2 (w2.setCell ⟨w.heap.size + 1, 0, none⟩ (.int .i64 er)) from TS.tb (TB.set w2 0 _) (by simp))
          have HC63 := Lib.hid ((HTB.out.block _ (Array.getElem?_eq_some_iff.1 HC62.out).1 (by simp)).trans HC62.out)
          have HD3 := Lib.hid (HD2.out.ts HTB.out (fun x hx => by simp only [List.mem_singleton] at hx; subst hx; exact HFN2.out.2))
          have HT3 := Lib.hid (HT2.out.trans HTB.out (fun x hx => by simp only [List.mem_singleton] at hx; subst hx; exact .inl (by simp)))
          clear hf2 hd2 ht2 HC hcut hw4 hw5 HD HT HC8 HC6 HD2 HT2 HC62 HFN HN6
          by_cases he : er = 0
          · subst he
            have hrj := HRJ2.out
            rw [if_pos rfl] at hrj
            have HRJ3 := Lib.hid hrj
            clear hrj HRJ2
            go_upto_region 12 with fail
            clear q8 f8
            have q8 := row1 HC83.out
            generalize w2.setCell ⟨w.heap.size + 1, 0, none⟩ (.int .i64 0) = w3 at *
            go_wp2
            go_roundw
            case rel => exact ⟨j + 1, D2, F2, by have := HJ.out; omega, by go_num, HD3, HF2, HT3, HC83, Lib.hid (by rw [show 8 - (j + 1) = 7 - j by omega]; exact HRJ3.out)⟩
            case measure => (show 8 - ((j : Int) + 1).toNat < 8 - ((j : Int)).toNat; have := HJ.out; omega)
          · have heb : (er != 0) = true := by simpa using he
            have hrj := HRJ2.out
            rw [if_neg he] at hrj
            have HRJ3 := Lib.hid hrj
            clear hrj HRJ2 he
            go_upto_region 12 with fail
            clear q8 f8
            have q8 := row1 HC83.out
            have q6 := row1 HC63.out
            have f6 := frozen_row _ HC63.out 0
            generalize w2.setCell ⟨w.heap.size + 1, 0, none⟩ (.int .i64 er) = w3 at *
            go_wp2
            exact sv_door HRJ3.out HC83.out HC63.out HD3.out HF2.out HF.out (by
              have h1 := (TS.of (F := F) HWA.out).trans HT3.out (fun x hx => by
                rcases List.mem_cons.1 hx with hx | hx
                · right; omega
                · exact .inl hx)
              exact h1) rfl rfl
        · obtain rfl : j = 8 := by omega
          have hq := HRJ.out
          rw [svF] at hq
          have HRJ3 := Lib.hid hq
          have q8 := row1 HC8.out
          have q6 := row1 HC6.out
          have f6 := frozen_row _ HC6.out 0
          have HC83 := HC8
          have HC63 := HC6
          have HFN2 := HFN
          have HF2 := HFF
          have HD3 := HD
          have HT3 := HT
          clear hq HRJ HFN HD HT HFF HC8 HC6
          go_wp2
          exact sv_door HRJ3.out HC83.out HC63.out HD3.out HF2.out HF.out (by
            have h1 := (TS.of (F := F) HWA.out).trans HT3.out (fun x hx => by
              rcases List.mem_cons.1 hx with hx | hx
              · right; omega
              · exact .inl hx)
            exact h1) rfl rfl
    · rw [if_pos (.inr hx)] at hR
      subst hR
      have hxe : ((xs.length : Int) != 4096) = true := by rw [bne_iff_ne]; omega
      clear ho hx hl hca
      go_enter_defers Try.func47, Try.ntmps47
      go_wp2_with fail
      refine HR.out.mono ?_
      rintro e w1 ⟨rfl, rfl⟩
      go_wp2
      refine ⟨.int .i64 2, ?_, rfl, F, fun x hx => .inl hx, H0.out.fb ((FB.refl w).alloc _), TS.of ((FB.refl w).alloc _)⟩
      simp [results, Try.results47, go_sem]
end Go.Proofs.Ytihljjfnjclefaa
