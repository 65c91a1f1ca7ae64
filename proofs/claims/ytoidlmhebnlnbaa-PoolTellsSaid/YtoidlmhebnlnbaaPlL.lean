/- pool: the walk through lives. -/
import Derived.Test.YtoidlmhebnlnbaaPlK
set_option linter.unusedVariables false
set_option linter.unusedSimpArgs false
namespace Go.Proofs.Ytoidlmhebnlnbaa
open Go.ChangeShapes Go.WideShapes Go.ChangeAt Go.RowKit
attribute [local go_sem] nb_nonneg nb_lt8 nb_lt64
set_option maxRecDepth 100000

theorem owns_form {w : World} {base : Nat} {e : TypeId} {size : Nat} {v : Value} {n : Nat} {xs : List Value} (h : w.ownsRow base e size v n xs) (hn : 0 < n) :
    ∃ gl cap, v = .slice (some ⟨gl, 0, none⟩) n cap ∧ base ≤ gl ∧ gl < w.heap.size ∧ ∀ j, j < n * size → w.cell? ⟨gl, j, none⟩ = xs[j]? := by
  have h0 := h
  rcases h.2 with ⟨_, h2⟩ | ⟨g, cap, cur, rfl, hb, hg, _⟩
  · omega
  · exact ⟨g, cap, rfl, hb, (Array.getElem?_eq_some_iff.1 hg).1, fun j hj => World.ownsRow.cellAt h0 j hj⟩
theorem afCs_get (fs : List Frm) (i : Nat) (h : i < fs.length) (j : Nat) (hj : j < 5) : (fs.flatMap afCs)[i * 5 + j]? = (afCs fs[i])[j]? := by
  have e : fs = fs.take i ++ (fs[i] :: fs.drop (i + 1)) := by rw [List.getElem_cons_drop, List.take_append_drop]
  have e2 : fs.flatMap afCs = (fs.take i).flatMap afCs ++ (afCs fs[i] ++ (fs.drop (i + 1)).flatMap afCs) := by
    calc fs.flatMap afCs = (fs.take i ++ (fs[i] :: fs.drop (i + 1))).flatMap afCs := by rw [← e]
      _ = _ := by rw [List.flatMap_append, List.flatMap_cons]
  have hl : ((fs.take i).flatMap afCs).length = i * 5 := by rw [afCs_len, List.length_take]; omega
  rw [e2, List.getElem?_append_right (by omega), hl, List.getElem?_append_left (by simp [afCs]; omega)]
  congr 1
  omega
/-- A frame of those that Frames returned: Is, Page, Pins. -/
theorem owns_frame {w : World} {base : Nat} {gl cap n : Nat} {fs : List Frm} (hc : ∀ j, j < n * 5 → w.cell? ⟨gl, j, none⟩ = (fs.flatMap afCs)[j]?) (hn : n = fs.length) (i : Nat) (hi : i < n) :
    w.cell? ⟨gl, i * 5, none⟩ = some (.bool (fs[i]'(by omega)).is) ∧ w.cell? ⟨gl, i * 5 + 1, none⟩ = some (.int .i64 (fs[i]'(by omega)).pg) ∧ w.cell? ⟨gl, i * 5 + 2, none⟩ = some (.int .i64 (fs[i]'(by omega)).pins) := by
  subst hn
  have q := fun (j : Nat) (hj : j < 5) => show w.cell? ⟨gl, i * 5 + j, none⟩ = (afCs fs[i])[j]? from by rw [hc _ (by omega), afCs_get fs i hi j hj]
  exact ⟨q 0 (by omega), q 1 (by omega), q 2 (by omega)⟩
theorem lv_fs : ((lvS 9).fs.flatMap afCs)[1]? = some (.int .i64 8) ∧ (lvS 9).fs.length = 8 := by
  constructor <;> rfl
set_option maxHeartbeats 2000000 in
theorem law7_lives (w : World) : Calls Try.prog 10 #[] w fun e w' => e = .returned (.bool true) ∧ FB w w' := by
  go_enter Try.func10, Try.ntmps10
  go_wp2_with fail
  refine (dsk_New_ok 96 (by omega) (by omega) w).mono ?_
  rintro e w1 ⟨F, g, rfl, hd, hf, hn⟩
  have HD := Lib.hid hd
  have HF := Lib.hid hf
  have HN := Lib.hid hn
  clear hd hf hn
  go_wp2_with fail
  refine (po_New HD.out HN.out HF.out 8 (by omega) (by omega) (by omega)).mono ?_
  rintro e w2 ⟨gp, gf, rfl, hp⟩
  have HP0 := Lib.hid (show PoA w [] g 96 gp gf (lvS 0) w2 from by rw [lv_D]; exact hp)
  clear hp HD HF HN
  go_wp2_with fail
  go_loopw [4, 5] (fun e i wr => ∃ j : Nat, j ≤ 9 ∧ i = .int .i64 j ∧ e = .int .i64 0 ∧ Hid (PoA w [] g 96 gp gf (lvS j) wr)) (fun _ i _ => 9 - (intOf i).toNat)
  case atStart => exact ⟨0, by omega, rfl, rfl, HP0⟩
  case round =>
    clear HP0
    obtain ⟨j, hj, rfl, rfl, HP⟩ := hrel
    by_cases hlt : j < 9
    · have hz : (j : Int) < 9 := by omega
      have HJ := Lib.hid hlt
      have hwk : IntKind.i64.wrap ((j : Int) + 1) = (j : Int) + 1 := by rw [IntKind.wrap_i64]; omega
      have hw8 : IntKind.u8.wrap (j : Int) = nb (BitVec.ofNat 8 j) := by rw [nb_ofNat _ (by omega), IntKind.wrap_u8]; omega
      have HPT := Lib.hid (lv_put j hlt)
      clear hlt hj
      go_wp2_with fail
      refine (law7_row (BitVec.ofNat 8 j) wr).mono ?_
      rintro e w3 ⟨A, rfl, ho, hb⟩
      have HO := Lib.hid ho
      have HB := Lib.hid hb
      clear ho hb
      go_wp2_with fail
      obtain ⟨gb, e1, e2, e3⟩ := Own.head0 HO.out (by omega)
      have HPK := Lib.hid (HP.out.add HB.out gb e2 e3)
      have HPC := Lib.hid (po_Put HPK.out (j : Int) A 4096 (lvRow j) (by unfold lvRow; rw [List.length_replicate]; omega) HO.out.info.2.2.1 (fun ad ha => by rw [e1] at ha; cases ha; exact .inl (by simp)))
      rw [show (lvRow j).length = 4096 from List.length_replicate] at HPC
      clear e1 e2 e3 HO HB HPK
      refine HPC.out.mono ?_
      rintro e w4 ⟨rfl, hp, _⟩
      rw [HPT.out] at hp
      have HP4 := Lib.hid (hp.fewer (K' := []) (by simp))
      rw [HPT.out]
      clear hp HPC HPT
      go_wp2_with fail
      go_roundw
      case rel => exact ⟨j + 1, by have := HJ.out; omega, by go_num, rfl, HP4⟩
      case measure => (show 9 - ((j : Int) + 1).toNat < 9 - ((j : Int)).toNat; have := HJ.out; omega)
    · have hz : ¬ (j : Int) < 9 := by omega
      obtain rfl : j = 9 := by omega
      clear hlt hj
      go_wp2_with fail
      refine (po_Frames HP.out).mono ?_
      rintro e w3 ⟨v, rfl, ho, hb⟩
      obtain ⟨gl, cap, rfl, q1, q2, q3⟩ := owns_form ho (by rw [lv_fs.2]; omega)
      have c1 := q3 1 (by rw [lv_fs.2]; omega)
      rw [lv_fs.1] at c1
      rw [lv_fs.2]
      have HP3 := Lib.hid (HP.out.byFB hb).1
      clear ho hb q1 q2 q3 HP
      obtain ⟨Fd, hdk, hfd⟩ := HP3.out.dsk
      have HC := Lib.hid (dsk_Cached hdk)
      rw [show (lvS 9).D.M.length = 8 from lv_M] at HC
      clear hdk hfd
      go_wp2_with fail
      refine HC.out.mono ?_
      rintro e w4 ⟨A4, c4, rfl, _, hb4, _⟩
      have HP4 := Lib.hid (show PoA w [] g 96 gp gf (lvU 0) w4 from by rw [← lv_U0]; exact (HP3.out.byFB hb4).1)
      clear HC HP3 hb4 c1
      go_wp2_with fail
      go_loopw [7] (fun i wr => ∃ j : Nat, 1 ≤ j ∧ j ≤ 9 ∧ i = .int .i64 j ∧ Hid (PoA w [] g 96 gp gf (lvU (j - 1)) wr)) (fun i _ => 9 - (intOf i).toNat)
      case atStart => exact ⟨1, by omega, by omega, rfl, HP4⟩
      case round =>
        clear HP4
        obtain ⟨j, hj1, hj, rfl, HP⟩ := hrel
        by_cases hlt : j < 9
        · have hz : (j : Int) < 9 := by omega
          have HJ := Lib.hid (And.intro hlt hj1)
          have hwk : IntKind.i64.wrap ((j : Int) + 1) = (j : Int) + 1 := by rw [IntKind.wrap_i64]; omega
          have HPT := Lib.hid (lv_pin j hj1 hlt)
          clear hlt hj hj1
          go_wp2_with fail
          refine (po_Pin HP.out (j : Int)).mono ?_
          rintro e w5 ⟨rfl, hp, _⟩
          rw [HPT.out] at hp
          rw [HPT.out]
          have HP5 := Lib.hid hp
          clear hp HPT HP
          go_wp2_with fail
          go_roundw
          case rel => exact ⟨j + 1, by omega, by have := HJ.out.1; omega, by go_num, HP5⟩
          case measure => (show 9 - ((j : Int) + 1).toNat < 9 - ((j : Int)).toNat; have := HJ.out.1; omega)
        · have hz : ¬ (j : Int) < 9 := by omega
          obtain rfl : j = 9 := by omega
          clear hlt hj hj1
          go_wp2_with fail
          refine (po_Get HP.out 9).mono ?_
          rintro e w6 ⟨A6, c6, rfl, _, _, hp, _⟩
          rw [show (plGet 96 (lvU (9 - 1)) 9).1.2 = 9 from lv_get]
          have HP6 := Lib.hid hp.fb
          clear hp HP
          generalize (plGetB 96 (lvU (9 - 1)) 9).length = m6
          go_wp2
          go_ret
          exact ⟨rfl, HP6.out⟩
end Go.Proofs.Ytoidlmhebnlnbaa
