/- The walk through SpaceCalls. -/
import Derived.Test.YtjhgnohofcahbaaRsK
set_option linter.unusedVariables false
set_option linter.unusedSimpArgs false
namespace Go.Proofs.Ytjhgnohofcahbaa
open Go.ChangeShapes Go.WideShapes Go.ChangeAt Go.RowKit
set_option maxRecDepth 100000

set_option maxHeartbeats 4000000 in
theorem spaceCalls_walk (P : Int) (A : Option Addr) (c : Nat) (us : List Bool) (Q : Int) (A2 : Option Addr) (c2 : Nat) (vs : List Bool) (k : Int) (B : Option Addr) (bc : Nat) (bs : List Byte) (w : World) (hc : us.length ≤ c) (hm : c ≤ maxLen) (hr : RdV w A (us.map .bool)) (hP : -9223372036854775808 ≤ P ∧ P ≤ 9223372036854775807) (hc2 : vs.length ≤ c2) (hm2 : c2 ≤ maxLen) (hr2 : RdV w A2 (vs.map .bool)) (hQ : -9223372036854775808 ≤ Q ∧ Q ≤ 9223372036854775807)
    (hk : -9223372036854775808 ≤ k ∧ k ≤ 9223372036854775807) (hcb : bs.length ≤ bc) (hmb : bc ≤ maxLen) (hrb : Rd w B bs) :
    Calls Try.prog 10 #[.agg #[.int .i64 P, .slice A us.length c], .agg #[.int .i64 Q, .slice A2 vs.length c2], .int .i64 k, .slice B bs.length bc] w fun e w' => e = .returned (.bool true) ∧ Below w.heap.size w w' := by
  obtain ⟨hf, hb1, hb2, -⟩ := box22 w (.int .i64 P) (.slice A us.length c) (.int .i64 Q) (.slice A2 vs.length c2)
  have HW0 := Lib.hid (show CaW w P us Q vs _ from ⟨hf, ⟨A, c, hb1, hf.rdV hr, hc, hm⟩, ⟨A2, c2, hb2, hf.rdV hr2, hc2, hm2⟩⟩)
  have HB := Lib.hid hrb
  have HBC := Lib.hid (And.intro hcb hmb)
  clear hf hb1 hb2 hc hm hr hP hc2 hm2 hr2 hQ hk hcb hmb hrb
  go_enter Try.func10, Try.ntmps10
  go_wp2_with fail
  refine (sp_lives _).mono ?_
  rintro e w1 ⟨rfl, hb⟩
  have HW1 := Lib.hid (HW0.out.go hb)
  clear hb HW0
  by_cases h1 : 300 < us.length
  · have hz : 300 < (us.length : Int) := by omega
    obtain ⟨A1, c1, hrw, -, -, -⟩ := HW1.out.s
    obtain ⟨q0, q1⟩ := row2 hrw
    go_wp2
    go_ret
    exact ⟨rfl, HW1.out.fb⟩
  · by_cases h2 : 300 < vs.length
    · have hz : ¬ 300 < (us.length : Int) := by omega
      have hz2 : 300 < (vs.length : Int) := by omega
      obtain ⟨A1, c1, hrw, -, -, -⟩ := HW1.out.s
      obtain ⟨q0, q1⟩ := row2 hrw
      obtain ⟨A3, c3, hrw3, -, -, -⟩ := HW1.out.t
      obtain ⟨q2, q3⟩ := row2 hrw3
      go_wp2
      go_ret
      exact ⟨rfl, HW1.out.fb⟩
    · by_cases h3 : 1000 < bs.length
      · have hz : ¬ 300 < (us.length : Int) := by omega
        have hz2 : ¬ 300 < (vs.length : Int) := by omega
        have hz3 : 1000 < (bs.length : Int) := by omega
        obtain ⟨A1, c1, hrw, -, -, -⟩ := HW1.out.s
        obtain ⟨q0, q1⟩ := row2 hrw
        obtain ⟨A3, c3, hrw3, -, -, -⟩ := HW1.out.t
        obtain ⟨q2, q3⟩ := row2 hrw3
        go_wp2
        go_ret
        exact ⟨rfl, HW1.out.fb⟩
      · have hz : ¬ 300 < (us.length : Int) := by omega
        have hz2 : ¬ 300 < (vs.length : Int) := by omega
        have hz3 : ¬ 1000 < (bs.length : Int) := by omega
        have HLU := Lib.hid (show us.length ≤ 300 from by omega)
        have HLV := Lib.hid (show vs.length ≤ 300 from by omega)
        have HLB := Lib.hid (show bs.length ≤ 1000 from by omega)
        obtain ⟨A3, c3, hrw3, -, -, -⟩ := HW1.out.t
        obtain ⟨r0, r1⟩ := row2 hrw3
        clear hrw3
        obtain ⟨rt, hrt⟩ : ∃ rt, rt = spTake P us := ⟨_, rfl⟩
        have hbt := spTake_len P us
        rw [← hrt] at hbt
        obtain ⟨n1, ⟨p1, l1⟩, e1⟩ := rt
        have HRT := Lib.hid hrt
        have HBl1 := Lib.hid (show l1.length ≤ 1000000000 from Nat.le_trans hbt (Nat.le_trans HLU.out (by omega)))
        clear hrt hbt
        obtain ⟨A1, c2, hrw3, hrd4, hlc5, hcm6⟩ := HW1.out.s
        obtain ⟨q7, q8⟩ := row2 hrw3
        have hcw := sp_Take P us A1 c2 _ hrd4 (Nat.le_trans HLU.out (by omega))
        rw [← HRT.out] at hcw
        have HC := Lib.hid hcw
        clear hcw hrw3 hrd4 hlc5 hcm6
        go_wp2_with fail
        clear q7 q8
        refine HC.out.mono ?_
        rintro e w9 ⟨A10, c11, rfl, hr, hc, hm, hb⟩
        clear HC
        have hbb := hb.alloc (.cells #[.int .i64 p1, .slice A10 l1.length c11] 41)
        have HGN := Lib.hid (show w.heap.size + 1 < w9.heap.size from Nat.lt_of_lt_of_le HW1.out.t.lt hb.le)
        have HW12 := Lib.hid (HW1.out.go hbb)
        clear HW1
        have HV14 := Lib.hid (SpB.new (P := p1) (us := l1) hr hc hm rfl)
        clear hb hbb hr hc hm
        have HG16 := HGN
        clear HGN
        obtain ⟨A17, c18, hrw19, hrd20, hlc21, hcm22⟩ := HW12.out.s
        obtain ⟨q23, q24⟩ := row2 hrw19
        have hcw := rs_Take P us A17 c18 _ hrd20 (Nat.le_trans HLU.out (by omega))
        rw [← HRT.out] at hcw
        have HC := Lib.hid hcw
        clear hcw hrw19 hrd20 hlc21 hcm22
        go_wp2_with fail
        generalize w9.alloc _ = W15 at *
        generalize w9.heap.size = g13 at *
        clear q23 q24
        refine HC.out.mono ?_
        rintro e w25 ⟨A26, c27, rfl, hr, hc, hm, hb⟩
        clear HC
        have hbb := hb.alloc (.cells #[.int .i64 p1, .slice A26 l1.length c27] 41)
        have HGN := Lib.hid (show w.heap.size + 1 < w25.heap.size from Nat.lt_of_lt_of_le HW12.out.t.lt hb.le)
        have HLT28 := Lib.hid (show g13 < w25.heap.size from Nat.lt_of_lt_of_le HV14.out.lt hb.le)
        have HW29 := Lib.hid (HW12.out.go hbb)
        clear HW12
        have HV30 := Lib.hid (HV14.out.fb hbb)
        clear HV14
        have HV32 := Lib.hid (SpB.new (P := p1) (us := l1) hr hc hm rfl)
        clear hb hbb hr hc hm
        have HG34 := HGN
        clear HGN
        obtain ⟨A35, c36, hrw37, hrd38, hlc39, hcm40⟩ := HV30.out
        obtain ⟨q41, q42⟩ := row2 hrw37
        obtain ⟨A43, c44, hrw45, hrd46, hlc47, hcm48⟩ := HV32.out
        obtain ⟨q49, q50⟩ := row2 hrw45
        have hcw := kit_Space p1 p1 l1 l1 A35 A43 c36 c44 _ HBl1.out HBl1.out hrd38 hrd46
        rw [spSame_self] at hcw
        have HC := Lib.hid hcw
        clear hcw hrw37 hrd38 hlc39 hcm40 hrw45 hrd46 hlc47 hcm48
        go_wp2_with fail
        generalize w25.alloc _ = W33 at *
        generalize w25.heap.size = g31 at *
        clear q41 q42 q49 q50
        refine HC.out.mono ?_
        rintro e w51 ⟨rfl, hb⟩
        clear HC
        have HW52 := Lib.hid (HW29.out.go hb)
        clear HW29
        have HV53 := Lib.hid (HV30.out.fb hb)
        clear HV30
        have HV54 := Lib.hid (HV32.out.fb hb)
        clear HV32
        clear hb
        obtain ⟨rt, hrt⟩ : ∃ rt, rt = spUse P us k := ⟨_, rfl⟩
        have hbt := spUse_len P us k
        rw [← hrt] at hbt
        obtain ⟨p2, l2, e2⟩ := rt
        have HR2 := Lib.hid hrt
        have HBl2 := Lib.hid (show l2.length ≤ 1000000000 from Nat.le_trans hbt (Nat.le_trans HLU.out (by omega)))
        clear hrt hbt
        obtain ⟨rt, hrt⟩ : ∃ rt, rt = spGive P us k := ⟨_, rfl⟩
        have hbt := spGive_len P us k
        rw [← hrt] at hbt
        obtain ⟨p3, l3, e3⟩ := rt
        have HR3 := Lib.hid hrt
        have HBl3 := Lib.hid (show l3.length ≤ 1000000000 from Nat.le_trans hbt (Nat.le_trans HLU.out (by omega)))
        clear hrt hbt
        obtain ⟨A55, c56, hrw57, hrd58, hlc59, hcm60⟩ := HW52.out.s
        obtain ⟨q61, q62⟩ := row2 hrw57
        have hcw := sp_Use P us A55 c56 k _ hrd58 (Nat.le_trans HLU.out (by omega)) hlc59 hcm60
        rw [← HR2.out] at hcw
        have HC := Lib.hid hcw
        clear hcw hrw57 hrd58 hlc59 hcm60
        go_wp2_with fail
        clear q61 q62
        refine HC.out.mono ?_
        rintro e w63 ⟨A64, c65, rfl, hr, hc, hm, hb⟩
        clear HC
        have HW66 := Lib.hid (HW52.out.go hb)
        clear HW52
        have HV67 := Lib.hid (HV53.out.fb hb)
        clear HV53
        have HV68 := Lib.hid (HV54.out.fb hb)
        clear HV54
        have hput := CaW.put (P1 := p2) HW66.out HV67.out HG16.out hr hc hm
        have HW69 := Lib.hid hput.2.1
        have HV70 := Lib.hid hput.2.2.1
        have hst71 := hput.1
        clear HW66 HV67
        have HV73 := Lib.hid (hput.2.2.2 _ _ _ (by have := HLT28.out; omega) HV68.out)
        clear HV68
        clear hput hb hr hc hm
        obtain ⟨A74, c75, hrw76, hrd77, hlc78, hcm79⟩ := HW69.out.s
        obtain ⟨q80, q81⟩ := row2 hrw76
        have hcw := (rs_Use P us A74 c75 k _ hrd77 (Nat.le_trans HLU.out (by omega)) hlc78 hcm79).mono (fun _ _ h => h.weak)
        rw [← HR2.out] at hcw
        have HC := Lib.hid hcw
        clear hcw hrw76 hrd77 hlc78 hcm79
        go_wp2_with (refine wpList_store_by rfl _ _ _ rfl _ hst71 ?_)
        clear hst71
        generalize w63.setRow _ _ = W72 at *
        clear q80 q81
        refine HC.out.mono ?_
        rintro e w82 ⟨A83, c84, rfl, hr, hc, hm, hb⟩
        clear HC
        have HW85 := Lib.hid (HW69.out.go hb)
        clear HW69
        have HV86 := Lib.hid (HV70.out.fb hb)
        clear HV70
        have HV87 := Lib.hid (HV73.out.fb hb)
        clear HV73
        have hput := CaW.put (P1 := p2) HW85.out HV87.out HG34.out hr hc hm
        have HW88 := Lib.hid hput.2.1
        have HV89 := Lib.hid hput.2.2.1
        have hst90 := hput.1
        clear HW85 HV87
        have HV92 := Lib.hid (hput.2.2.2 _ _ _ (by have := HLT28.out; omega) HV86.out)
        clear HV86
        clear hput hb hr hc hm
        obtain ⟨A93, c94, hrw95, hrd96, hlc97, hcm98⟩ := HW88.out.s
        obtain ⟨q99, q100⟩ := row2 hrw95
        have hcw := sp_Give P us A93 c94 k _ hrd96 (Nat.le_trans HLU.out (by omega)) hlc97 hcm98
        rw [← HR3.out] at hcw
        have HC := Lib.hid hcw
        clear hcw hrw95 hrd96 hlc97 hcm98
        go_wp2_with (refine wpList_store_by rfl _ _ _ rfl _ hst90 ?_)
        clear hst90
        generalize w82.setRow _ _ = W91 at *
        clear q99 q100
        refine HC.out.mono ?_
        rintro e w101 ⟨A102, c103, rfl, hr, hc, hm, hb⟩
        clear HC
        have hbb := hb.alloc (.cells #[.int .i64 p3, .slice A102 l3.length c103] 41)
        have HGN := Lib.hid (show w.heap.size + 1 < w101.heap.size from Nat.lt_of_lt_of_le HW88.out.t.lt hb.le)
        have HLT104 := Lib.hid (show g13 < w101.heap.size from Nat.lt_of_lt_of_le HV92.out.lt hb.le)
        have HLT105 := Lib.hid (show g31 < w101.heap.size from Nat.lt_of_lt_of_le HV89.out.lt hb.le)
        have HW106 := Lib.hid (HW88.out.go hbb)
        clear HW88
        have HV107 := Lib.hid (HV92.out.fb hbb)
        clear HV92
        have HV108 := Lib.hid (HV89.out.fb hbb)
        clear HV89
        have HV110 := Lib.hid (SpB.new (P := p3) (us := l3) hr hc hm rfl)
        clear hb hbb hr hc hm
        have HG112 := HGN
        clear HGN
        obtain ⟨A113, c114, hrw115, hrd116, hlc117, hcm118⟩ := HW106.out.s
        obtain ⟨q119, q120⟩ := row2 hrw115
        have hcw := (rs_Give P us A113 c114 k _ hrd116 (Nat.le_trans HLU.out (by omega)) hlc117 hcm118).mono (fun _ _ h => h.weak)
        rw [← HR3.out] at hcw
        have HC := Lib.hid hcw
        clear hcw hrw115 hrd116 hlc117 hcm118
        go_wp2_with fail
        generalize w101.alloc _ = W111 at *
        generalize w101.heap.size = g109 at *
        clear q119 q120
        refine HC.out.mono ?_
        rintro e w121 ⟨A122, c123, rfl, hr, hc, hm, hb⟩
        clear HC
        have hbb := hb.alloc (.cells #[.int .i64 p3, .slice A122 l3.length c123] 41)
        have HGN := Lib.hid (show w.heap.size + 1 < w121.heap.size from Nat.lt_of_lt_of_le HW106.out.t.lt hb.le)
        have HLT124 := Lib.hid (show g13 < w121.heap.size from Nat.lt_of_lt_of_le HV107.out.lt hb.le)
        have HLT125 := Lib.hid (show g31 < w121.heap.size from Nat.lt_of_lt_of_le HV108.out.lt hb.le)
        have HLT126 := Lib.hid (show g109 < w121.heap.size from Nat.lt_of_lt_of_le HV110.out.lt hb.le)
        have HW127 := Lib.hid (HW106.out.go hbb)
        clear HW106
        have HV128 := Lib.hid (HV107.out.fb hbb)
        clear HV107
        have HV129 := Lib.hid (HV108.out.fb hbb)
        clear HV108
        have HV130 := Lib.hid (HV110.out.fb hbb)
        clear HV110
        have HV132 := Lib.hid (SpB.new (P := p3) (us := l3) hr hc hm rfl)
        clear hb hbb hr hc hm
        have HG134 := HGN
        clear HGN
        obtain ⟨A135, c136, hrw137, hrd138, hlc139, hcm140⟩ := HV128.out
        obtain ⟨q141, q142⟩ := row2 hrw137
        obtain ⟨A143, c144, hrw145, hrd146, hlc147, hcm148⟩ := HV129.out
        obtain ⟨q149, q150⟩ := row2 hrw145
        have hcw := kit_Space p2 p2 l2 l2 A135 A143 c136 c144 _ HBl2.out HBl2.out hrd138 hrd146
        rw [spSame_self] at hcw
        have HC := Lib.hid hcw
        clear hcw hrw137 hrd138 hlc139 hcm140 hrw145 hrd146 hlc147 hcm148
        go_wp2_with fail
        generalize w121.alloc _ = W133 at *
        generalize w121.heap.size = g131 at *
        clear q141 q142 q149 q150
        refine HC.out.mono ?_
        rintro e w151 ⟨rfl, hb⟩
        clear HC
        have HW152 := Lib.hid (HW127.out.go hb)
        clear HW127
        have HV153 := Lib.hid (HV128.out.fb hb)
        clear HV128
        have HV154 := Lib.hid (HV129.out.fb hb)
        clear HV129
        have HV155 := Lib.hid (HV130.out.fb hb)
        clear HV130
        have HV156 := Lib.hid (HV132.out.fb hb)
        clear HV132
        clear hb
        obtain ⟨A157, c158, hrw159, hrd160, hlc161, hcm162⟩ := HV155.out
        obtain ⟨q163, q164⟩ := row2 hrw159
        obtain ⟨A165, c166, hrw167, hrd168, hlc169, hcm170⟩ := HV156.out
        obtain ⟨q171, q172⟩ := row2 hrw167
        have hcw := kit_Space p3 p3 l3 l3 A157 A165 c158 c166 _ HBl3.out HBl3.out hrd160 hrd168
        rw [spSame_self] at hcw
        have HC := Lib.hid hcw
        clear hcw hrw159 hrd160 hlc161 hcm162 hrw167 hrd168 hlc169 hcm170
        go_wp2_with fail
        clear q163 q164 q171 q172
        refine HC.out.mono ?_
        rintro e w173 ⟨rfl, hb⟩
        clear HC
        have HW174 := Lib.hid (HW152.out.go hb)
        clear HW152
        have HV175 := Lib.hid (HV153.out.fb hb)
        clear HV153
        have HV176 := Lib.hid (HV154.out.fb hb)
        clear HV154
        have HV177 := Lib.hid (HV155.out.fb hb)
        clear HV155
        have HV178 := Lib.hid (HV156.out.fb hb)
        clear HV156
        clear hb
        obtain ⟨rt, hrt⟩ : ∃ rt, rt = spBoth P us Q vs := ⟨_, rfl⟩
        have hbt := spBoth_len P Q us vs
        rw [← hrt] at hbt
        obtain ⟨p4, l4, e4⟩ := rt
        have HR4 := Lib.hid hrt
        have HBl4 := Lib.hid (show l4.length ≤ 1000000000 from Nat.le_trans hbt (Nat.le_trans HLU.out (by omega)))
        clear hrt hbt
        obtain ⟨A179, c180, hrw181, hrd182, hlc183, hcm184⟩ := HW174.out.s
        obtain ⟨q185, q186⟩ := row2 hrw181
        obtain ⟨A187, c188, hrw189, hrd190, hlc191, hcm192⟩ := HW174.out.t
        obtain ⟨q193, q194⟩ := row2 hrw189
        have hcw := sp_Both P Q us vs A179 A187 c180 c188 _ (Nat.le_trans HLU.out (by omega)) (Nat.le_trans HLV.out (by omega)) hrd182 hrd190
        rw [← HR4.out] at hcw
        have HC := Lib.hid hcw
        clear hcw hrw181 hrd182 hlc183 hcm184 hrw189 hrd190 hlc191 hcm192
        go_wp2_with fail
        clear q185 q186 q193 q194
        refine HC.out.mono ?_
        rintro e w195 ⟨A196, c197, rfl, hr, hc, hm, hb⟩
        clear HC
        have HW198 := Lib.hid (HW174.out.go hb)
        clear HW174
        have HV199 := Lib.hid (HV175.out.fb hb)
        clear HV175
        have HV200 := Lib.hid (HV176.out.fb hb)
        clear HV176
        have HV201 := Lib.hid (HV177.out.fb hb)
        clear HV177
        have HV202 := Lib.hid (HV178.out.fb hb)
        clear HV178
        have hput := CaW.put (P1 := p4) HW198.out HV199.out HG16.out hr hc hm
        have HW203 := Lib.hid hput.2.1
        have HV204 := Lib.hid hput.2.2.1
        have hst205 := hput.1
        clear HW198 HV199
        have HV207 := Lib.hid (hput.2.2.2 _ _ _ (by have := HLT28.out; omega) HV200.out)
        clear HV200
        have HV208 := Lib.hid (hput.2.2.2 _ _ _ (by have := HLT104.out; omega) HV201.out)
        clear HV201
        have HV209 := Lib.hid (hput.2.2.2 _ _ _ (by have := HLT124.out; omega) HV202.out)
        clear HV202
        clear hput hb hr hc hm
        obtain ⟨A210, c211, hrw212, hrd213, hlc214, hcm215⟩ := HW203.out.s
        obtain ⟨q216, q217⟩ := row2 hrw212
        obtain ⟨A218, c219, hrw220, hrd221, hlc222, hcm223⟩ := HW203.out.t
        obtain ⟨q224, q225⟩ := row2 hrw220
        have hcw := rs_Both P Q us vs A210 A218 c211 c219 _ (Nat.le_trans HLU.out (by omega)) (Nat.le_trans HLV.out (by omega)) hrd213 hrd221
        rw [← HR4.out] at hcw
        have HC := Lib.hid hcw
        clear hcw hrw212 hrd213 hlc214 hcm215 hrw220 hrd221 hlc222 hcm223
        go_wp2_with (refine wpList_store_by rfl _ _ _ rfl _ hst205 ?_)
        clear hst205
        generalize w195.setRow _ _ = W206 at *
        clear q216 q217 q224 q225
        refine HC.out.mono ?_
        rintro e w226 ⟨A227, c228, rfl, hr, hc, hm, hb⟩
        clear HC
        have HW229 := Lib.hid (HW203.out.go hb)
        clear HW203
        have HV230 := Lib.hid (HV204.out.fb hb)
        clear HV204
        have HV231 := Lib.hid (HV207.out.fb hb)
        clear HV207
        have HV232 := Lib.hid (HV208.out.fb hb)
        clear HV208
        have HV233 := Lib.hid (HV209.out.fb hb)
        clear HV209
        have hput := CaW.put (P1 := p4) HW229.out HV231.out HG34.out hr hc hm
        have HW234 := Lib.hid hput.2.1
        have HV235 := Lib.hid hput.2.2.1
        have hst236 := hput.1
        clear HW229 HV231
        have HV238 := Lib.hid (hput.2.2.2 _ _ _ (by have := HLT28.out; omega) HV230.out)
        clear HV230
        have HV239 := Lib.hid (hput.2.2.2 _ _ _ (by have := HLT105.out; omega) HV232.out)
        clear HV232
        have HV240 := Lib.hid (hput.2.2.2 _ _ _ (by have := HLT125.out; omega) HV233.out)
        clear HV233
        clear hput hb hr hc hm
        obtain ⟨⟨ys, e5⟩, hrt⟩ : ∃ rt, rt = spBytesR P us := ⟨_, rfl⟩
        have HR5 := Lib.hid hrt
        clear hrt
        obtain ⟨A241, c242, hrw243, hrd244, hlc245, hcm246⟩ := HW234.out.s
        obtain ⟨q247, q248⟩ := row2 hrw243
        have hcw := sp_Bytes P us A241 c242 _ hrd244 (Nat.le_trans HLU.out (by omega))
        rw [← HR5.out] at hcw
        have HC := Lib.hid hcw
        clear hcw hrw243 hrd244 hlc245 hcm246
        go_wp2_with (refine wpList_store_by rfl _ _ _ rfl _ hst236 ?_)
        clear hst236
        generalize w226.setRow _ _ = W237 at *
        clear q247 q248
        refine HC.out.mono ?_
        rintro e w249 ⟨A250, c251, rfl, hr, hc, hm, hb⟩
        clear HC
        replace hr : Rd w249 A250 ys := hr
        have HW252 := Lib.hid (HW234.out.go hb)
        clear HW234
        have HV253 := Lib.hid (HV238.out.fb hb)
        clear HV238
        have HV254 := Lib.hid (HV235.out.fb hb)
        clear HV235
        have HV255 := Lib.hid (HV239.out.fb hb)
        clear HV239
        have HV256 := Lib.hid (HV240.out.fb hb)
        clear HV240
        have HY257 := Lib.hid hr
        clear hb hr hc hm
        obtain ⟨A258, c259, hrw260, hrd261, hlc262, hcm263⟩ := HW252.out.s
        obtain ⟨q264, q265⟩ := row2 hrw260
        have hcw := rs_Bytes P us A258 c259 _ hrd261 (Nat.le_trans HLU.out (by omega))
        rw [← HR5.out] at hcw
        have HC := Lib.hid hcw
        clear hcw hrw260 hrd261 hlc262 hcm263
        go_wp2_with fail
        clear q264 q265
        refine HC.out.mono ?_
        rintro e w266 ⟨A267, c268, rfl, hr, hc, hm, hb⟩
        clear HC
        replace hr : Rd w266 A267 ys := hr
        have HW269 := Lib.hid (HW252.out.go hb)
        clear HW252
        have HV270 := Lib.hid (HV253.out.fb hb)
        clear HV253
        have HV271 := Lib.hid (HV254.out.fb hb)
        clear HV254
        have HV272 := Lib.hid (HV255.out.fb hb)
        clear HV255
        have HV273 := Lib.hid (HV256.out.fb hb)
        clear HV256
        have HY274 := Lib.hid (FB.rd hb HY257.out)
        clear HY257
        have HY275 := Lib.hid hr
        clear hb hr hc hm
        obtain ⟨A276, c277, hrw278, hrd279, hlc280, hcm281⟩ := HV270.out
        obtain ⟨q282, q283⟩ := row2 hrw278
        obtain ⟨A284, c285, hrw286, hrd287, hlc288, hcm289⟩ := HV271.out
        obtain ⟨q290, q291⟩ := row2 hrw286
        have hcw := kit_Space p4 p4 l4 l4 A276 A284 c277 c285 _ HBl4.out HBl4.out hrd279 hrd287
        rw [spSame_self] at hcw
        have HC := Lib.hid hcw
        clear hcw hrw278 hrd279 hlc280 hcm281 hrw286 hrd287 hlc288 hcm289
        go_wp2_with fail
        clear q282 q283 q290 q291
        refine HC.out.mono ?_
        rintro e w292 ⟨rfl, hb⟩
        clear HC
        have HW293 := Lib.hid (HW269.out.go hb)
        clear HW269
        have HV294 := Lib.hid (HV270.out.fb hb)
        clear HV270
        have HV295 := Lib.hid (HV271.out.fb hb)
        clear HV271
        have HV296 := Lib.hid (HV272.out.fb hb)
        clear HV272
        have HV297 := Lib.hid (HV273.out.fb hb)
        clear HV273
        have HY298 := Lib.hid (FB.rd hb HY274.out)
        clear HY274
        have HY299 := Lib.hid (FB.rd hb HY275.out)
        clear HY275
        clear hb
        have hs1 := run_string c251 HY298.out
        have hs2 := run_string c268 HY299.out
        have hse : ((sb ys).toList == (sb ys).toList) = true := by simp
        have HOW := Lib.hid (kit_Own bs B bc _ HBC.out.1 (by have := HLB.out; omega) (FB.rd HW293.out.fb HB.out))
        go_wp2_with fail
        clear hs1 hs2 hse
        refine HOW.out.mono ?_
        rintro e w300 ⟨Ao, co, rfl, ho, hb⟩
        have hro := (Own.info ho).2.2.1
        have HW301 := Lib.hid (HW293.out.go hb)
        clear HW293
        have HV302 := Lib.hid (HV294.out.fb hb)
        clear HV294
        have HV303 := Lib.hid (HV295.out.fb hb)
        clear HV295
        have HV304 := Lib.hid (HV296.out.fb hb)
        clear HV296
        have HV305 := Lib.hid (HV297.out.fb hb)
        clear HV297
        have HOR := Lib.hid hro
        obtain ⟨rt, hrt⟩ : ∃ rt, rt = spRead bs := ⟨_, rfl⟩
        have hbt := spRead_lenM bs
        rw [← hrt] at hbt
        obtain ⟨p6, l6, e6⟩ := rt
        have HR6 := Lib.hid hrt
        have HBl6 := Lib.hid (show l6.length ≤ 1000000000 from Nat.le_trans hbt (by omega))
        clear hrt hbt ho hb hro HOW
        have hcw := sp_Read bs Ao co _ HOR.out (by have := HLB.out; omega)
        rw [← HR6.out] at hcw
        have HC := Lib.hid hcw
        clear hcw 
        go_wp2_with fail
        refine HC.out.mono ?_
        rintro e w306 ⟨A307, c308, rfl, hr, hc, hm, hb⟩
        clear HC
        have HW309 := Lib.hid (HW301.out.go hb)
        clear HW301
        have HV310 := Lib.hid (HV302.out.fb hb)
        clear HV302
        have HV311 := Lib.hid (HV303.out.fb hb)
        clear HV303
        have HV312 := Lib.hid (HV304.out.fb hb)
        clear HV304
        have HV313 := Lib.hid (HV305.out.fb hb)
        clear HV305
        have hput := CaW.put (P1 := p6) HW309.out HV310.out HG16.out hr hc hm
        have HW314 := Lib.hid hput.2.1
        have HV315 := Lib.hid hput.2.2.1
        have hst316 := hput.1
        clear HW309 HV310
        have HV318 := Lib.hid (hput.2.2.2 _ _ _ (by have := HLT28.out; omega) HV311.out)
        clear HV311
        have HV319 := Lib.hid (hput.2.2.2 _ _ _ (by have := HLT104.out; omega) HV312.out)
        clear HV312
        have HV320 := Lib.hid (hput.2.2.2 _ _ _ (by have := HLT124.out; omega) HV313.out)
        clear HV313
        clear hput hb hr hc hm
        have hcw := rs_Read bs B bc _ (FB.rd HW314.out.fb HB.out) (by have := HLB.out; omega) HBC.out.1 HBC.out.2
        rw [← HR6.out] at hcw
        have HC := Lib.hid hcw
        clear hcw 
        go_wp2_with (refine wpList_store_by rfl _ _ _ rfl _ hst316 ?_)
        clear hst316
        generalize w306.setRow _ _ = W317 at *
        refine HC.out.mono ?_
        rintro e w321 ⟨A322, c323, rfl, hr, hc, hm, hb⟩
        clear HC
        have HW324 := Lib.hid (HW314.out.go hb)
        clear HW314
        have HV325 := Lib.hid (HV315.out.fb hb)
        clear HV315
        have HV326 := Lib.hid (HV318.out.fb hb)
        clear HV318
        have HV327 := Lib.hid (HV319.out.fb hb)
        clear HV319
        have HV328 := Lib.hid (HV320.out.fb hb)
        clear HV320
        have hput := CaW.put (P1 := p6) HW324.out HV326.out HG34.out hr hc hm
        have HW329 := Lib.hid hput.2.1
        have HV330 := Lib.hid hput.2.2.1
        have hst331 := hput.1
        clear HW324 HV326
        have HV333 := Lib.hid (hput.2.2.2 _ _ _ (by have := HLT28.out; omega) HV325.out)
        clear HV325
        have HV334 := Lib.hid (hput.2.2.2 _ _ _ (by have := HLT105.out; omega) HV327.out)
        clear HV327
        have HV335 := Lib.hid (hput.2.2.2 _ _ _ (by have := HLT125.out; omega) HV328.out)
        clear HV328
        clear hput hb hr hc hm
        obtain ⟨Ax, cx, hrwx, hrdx, -, -⟩ := HV333.out
        obtain ⟨Ay, cy, hrwy, hrdy, -, -⟩ := HV330.out
        obtain ⟨As, cs, hrws, hrds, -, -⟩ := HW329.out.s
        obtain ⟨At, ct, hrwt, hrdt, -, -⟩ := HW329.out.t
        have HRX := Lib.hid (row2 hrwx)
        have HRY := Lib.hid (row2 hrwy)
        have HRS := Lib.hid (row2 hrws)
        have HRT2 := Lib.hid (row2 hrwt)
        have C1 := Lib.hid (fun W (h : FB _ W) => kit_Space p6 p6 l6 l6 Ax Ay cx cy W HBl6.out HBl6.out (h.rdV hrdx) (h.rdV hrdy))
        rw [spSame_self] at C1
        obtain ⟨fs, hfs⟩ : ∃ fs, fs = spFree P us := ⟨_, rfl⟩
        have HFL := Lib.hid (show fs.length ≤ 1000000000 from by
          rw [hfs]; unfold spFree; have := HLU.out
          split
          · exact Nat.le_trans (frees_le _ _) (by omega)
          · simp)
        have C2 := Lib.hid (fun W (h : FB _ W) => sp_Free P us As cs W (h.rdV hrds) (Nat.le_trans HLU.out (by omega)))
        have C3 := Lib.hid (fun W (h : FB _ W) => rs_Free P us As cs W (h.rdV hrds) (Nat.le_trans HLU.out (by omega)))
        have C5 := Lib.hid (fun W (h : FB _ W) => sp_Count P us As cs W (h.rdV hrds) (Nat.le_trans HLU.out (by omega)))
        rw [← hfs] at C2 C3 C5
        have C7 := Lib.hid (fun W (h : FB _ W) => sp_Check P us As cs W (h.rdV hrds) (Nat.le_trans HLU.out (by omega)))
        have C8 := Lib.hid (fun W (h : FB _ W) => rs_Check P us As cs W (h.rdV hrds) (Nat.le_trans HLU.out (by omega)))
        generalize spChk P us = ck at *
        have C9 := Lib.hid (fun W (h : FB _ W) => sp_Same P Q us vs As At cs ct W (Nat.le_trans HLU.out (by omega)) (Nat.le_trans HLV.out (by omega)) (h.rdV hrds) (h.rdV hrdt))
        have C10 := Lib.hid (fun W (h : FB _ W) => kit_Space P Q us vs As At cs ct W (Nat.le_trans HLU.out (by omega)) (Nat.le_trans HLV.out (by omega)) (h.rdV hrds) (h.rdV hrdt))
        generalize spSame P us Q vs = sa at *
        clear hfs hrwx hrdx hrwy hrdy hrws hrds hrwt hrdt HV333 HV330 HV334 HV335
        go_wp2_with (refine wpList_store_by rfl _ _ _ rfl _ hst331 ?_)
        clear hst331
        generalize w321.setRow _ _ = W332 at *
        obtain ⟨W0, hW0⟩ : ∃ W0 : World, W0 = W332 := ⟨_, rfl⟩
        rw [← hW0]
        refine region_sch (E := FB) ((0, true) :: (1, true) :: (2, false) :: (3, true) :: (4, true) :: (5, true) :: (6, true) :: (7, true) :: (8, true) :: (9, true) :: (11, true) :: (10, false) :: (12, false) :: (13, false) :: (14, true) :: (15, true) :: (16, true) :: (18, true) :: (17, false) :: (19, false) :: (20, true) :: (21, true) :: (22, true) :: (23, true) :: (24, true) :: (26, true) :: (25, false) :: (27, false) :: (28, true) :: (29, true) :: (30, true) :: (31, true) :: (32, true) :: (34, true) :: (35, true) :: (33, false) :: (36, false) :: (37, true) :: (38, true) :: (39, true) :: []) (by kernel_rfl) FB.refl fb_trans (fun _ _ d _ _ h => by cases d <;> exact h) (by kernel_rfl) ?_
        intro ops hops0
        have hops := Lib.hid hops0
        clear hops0
        have HF : FB W0 W0.drew := (FB.refl _).drew
        generalize W0.drew = wF at *
        have HFx := Lib.hid (show FB W332 wF from by rw [← hW0]; exact HF)
        clear hW0 HF
        have K1 := Lib.hid (FB.cell HFx.out HRX.out.1)
        have K2 := Lib.hid (FB.cell HFx.out HRX.out.2)
        have K3 := Lib.hid (FB.cell HFx.out HRY.out.1)
        have K4 := Lib.hid (FB.cell HFx.out HRY.out.2)
        have K5 := Lib.hid (FB.cell HFx.out HRS.out.1)
        have K6 := Lib.hid (FB.cell HFx.out HRS.out.2)
        have K7 := Lib.hid (FB.cell HFx.out HRT2.out.1)
        have K8 := Lib.hid (FB.cell HFx.out HRT2.out.2)
        have HF := FB.refl wF
        repeat (refine sch_take (o := ?_) (v := ?_) (a' := ?_) (at_of hops.out ?_) ?_ (fun W hW => ?_) ?_ ?_; rotate_left 3; (focus (simp only [List.getElem?_toArray, List.getElem?_cons_zero, List.getElem?_cons_succ]; rfl)); (focus (rw [hops.out]; rfl)); (focus (have u1 := FB.cell hW K1.out; have u2 := FB.cell hW K2.out; have u3 := FB.cell hW K3.out; have u4 := FB.cell hW K4.out; go_simp; with_reducible rfl)); (focus (simp only [Act.put, List.setIfInBounds_toArray, List.set_cons_zero, List.set_cons_succ]; rfl)))
        (refine sch_call (o := ?_) (f := ?_) (args := ?_) (at_of hops.out ?_) ?_ ?_ ?_; rotate_left 3; (focus (simp only [List.getElem?_toArray, List.getElem?_cons_zero, List.getElem?_cons_succ]; rfl)); (focus (rw [hops.out]; rfl)); (focus (go_simp; constructor <;> with_reducible rfl)); (first | ((with_reducible refine (C1.out _ (HFx.out.trans HF)).mono ?_); rintro e w' ⟨rfl, hb⟩; refine ⟨_, rfl, hb, ?_⟩; intro a' ha'; simp only [Act.put, List.setIfInBounds_toArray, List.set_cons_zero, List.set_cons_succ] at ha'; subst ha'; replace HF := HF.call hb; clear hb)))
        repeat (refine sch_take (o := ?_) (v := ?_) (a' := ?_) (at_of hops.out ?_) ?_ (fun W hW => ?_) ?_ ?_; rotate_left 3; (focus (simp only [List.getElem?_toArray, List.getElem?_cons_zero, List.getElem?_cons_succ]; rfl)); (focus (rw [hops.out]; rfl)); (focus (have u5 := FB.cell (HF.trans hW) K5.out; have u6 := FB.cell (HF.trans hW) K6.out; go_simp; with_reducible rfl)); (focus (simp only [Act.put, List.setIfInBounds_toArray, List.set_cons_zero, List.set_cons_succ]; rfl)))
        (refine sch_call (o := ?_) (f := ?_) (args := ?_) (at_of hops.out ?_) ?_ ?_ ?_; rotate_left 3; (focus (simp only [List.getElem?_toArray, List.getElem?_cons_zero, List.getElem?_cons_succ]; rfl)); (focus (rw [hops.out]; rfl)); (focus (go_simp; constructor <;> with_reducible rfl)); (first | ((with_reducible refine (C2.out _ (HFx.out.trans HF)).mono ?_); rintro e w' ⟨A20, c20, rfl, hr20, hb⟩; refine ⟨_, rfl, hb, ?_⟩; intro a' ha'; simp only [Act.put, List.setIfInBounds_toArray, List.set_cons_zero, List.set_cons_succ] at ha'; subst ha'; replace HF := HF.call hb; clear hb)))
        (refine sch_call (o := ?_) (f := ?_) (args := ?_) (at_of hops.out ?_) ?_ ?_ ?_; rotate_left 3; (focus (simp only [List.getElem?_toArray, List.getElem?_cons_zero, List.getElem?_cons_succ]; rfl)); (focus (rw [hops.out]; rfl)); (focus (go_simp; constructor <;> with_reducible rfl)); (first | ((with_reducible refine (C3.out _ (HFx.out.trans HF)).mono ?_); rintro e w'' ⟨A21, c21, rfl, hr21, hb⟩; (have hr22 := FB.rdV hb hr20); refine ⟨_, rfl, hb, ?_⟩; intro a' ha'; simp only [Act.put, List.setIfInBounds_toArray, List.set_cons_zero, List.set_cons_succ] at ha'; subst ha'; replace HF := HF.call hb; clear hb)))
        (refine sch_call (o := ?_) (f := ?_) (args := ?_) (at_of hops.out ?_) ?_ ?_ ?_; rotate_left 3; (focus (simp only [List.getElem?_toArray, List.getElem?_cons_zero, List.getElem?_cons_succ]; rfl)); (focus (rw [hops.out]; rfl)); (focus (go_simp; constructor <;> with_reducible rfl)); (first | ((with_reducible refine (kit_Ints fs A20 A21 c20 c21 _ HFL.out hr22 hr21).mono ?_); rintro e w' ⟨rfl, hb⟩; refine ⟨_, rfl, hb, ?_⟩; intro a' ha'; simp only [Act.put, List.setIfInBounds_toArray, List.set_cons_zero, List.set_cons_succ] at ha'; subst ha'; replace HF := HF.call hb; clear hb)))
        clear hr20 hr21 hr22
        repeat (refine sch_take (o := ?_) (v := ?_) (a' := ?_) (at_of hops.out ?_) ?_ (fun W hW => ?_) ?_ ?_; rotate_left 3; (focus (simp only [List.getElem?_toArray, List.getElem?_cons_zero, List.getElem?_cons_succ]; rfl)); (focus (rw [hops.out]; rfl)); (focus (have u5 := FB.cell (HF.trans hW) K5.out; have u6 := FB.cell (HF.trans hW) K6.out; go_simp; with_reducible rfl)); (focus (simp only [Act.put, List.setIfInBounds_toArray, List.set_cons_zero, List.set_cons_succ]; rfl)))
        (refine sch_call (o := ?_) (f := ?_) (args := ?_) (at_of hops.out ?_) ?_ ?_ ?_; rotate_left 3; (focus (simp only [List.getElem?_toArray, List.getElem?_cons_zero, List.getElem?_cons_succ]; rfl)); (focus (rw [hops.out]; rfl)); (focus (go_simp; constructor <;> with_reducible rfl)); (first | ((with_reducible refine (C5.out _ (HFx.out.trans HF)).mono ?_); rintro e w' ⟨rfl, hb⟩; refine ⟨_, rfl, hb, ?_⟩; intro a' ha'; simp only [Act.put, List.setIfInBounds_toArray, List.set_cons_zero, List.set_cons_succ] at ha'; subst ha'; replace HF := HF.call hb; clear hb)))
        (refine sch_call (o := ?_) (f := ?_) (args := ?_) (at_of hops.out ?_) ?_ ?_ ?_; rotate_left 3; (focus (simp only [List.getElem?_toArray, List.getElem?_cons_zero, List.getElem?_cons_succ]; rfl)); (focus (rw [hops.out]; rfl)); (focus (go_simp; constructor <;> with_reducible rfl)); (first | ((with_reducible refine (C3.out _ (HFx.out.trans HF)).mono ?_); rintro e w'' ⟨A21, c21, rfl, hr21, hb⟩; refine ⟨_, rfl, hb, ?_⟩; intro a' ha'; simp only [Act.put, List.setIfInBounds_toArray, List.set_cons_zero, List.set_cons_succ] at ha'; subst ha'; replace HF := HF.call hb; clear hb)))
        repeat (refine sch_take (o := ?_) (v := ?_) (a' := ?_) (at_of hops.out ?_) ?_ (fun W hW => ?_) ?_ ?_; rotate_left 3; (focus (simp only [List.getElem?_toArray, List.getElem?_cons_zero, List.getElem?_cons_succ]; rfl)); (focus (rw [hops.out]; rfl)); (focus (have u5 := FB.cell (HF.trans hW) K5.out; have u6 := FB.cell (HF.trans hW) K6.out; go_simp; with_reducible rfl)); (focus (simp only [Act.put, List.setIfInBounds_toArray, List.set_cons_zero, List.set_cons_succ]; rfl)))
        (refine sch_call (o := ?_) (f := ?_) (args := ?_) (at_of hops.out ?_) ?_ ?_ ?_; rotate_left 3; (focus (simp only [List.getElem?_toArray, List.getElem?_cons_zero, List.getElem?_cons_succ]; rfl)); (focus (rw [hops.out]; rfl)); (focus (go_simp; constructor <;> with_reducible rfl)); (first | ((with_reducible refine (C7.out _ (HFx.out.trans HF)).mono ?_); rintro e w' ⟨rfl, hb⟩; refine ⟨_, rfl, hb, ?_⟩; intro a' ha'; simp only [Act.put, List.setIfInBounds_toArray, List.set_cons_zero, List.set_cons_succ] at ha'; subst ha'; replace HF := HF.call hb; clear hb)))
        (refine sch_call (o := ?_) (f := ?_) (args := ?_) (at_of hops.out ?_) ?_ ?_ ?_; rotate_left 3; (focus (simp only [List.getElem?_toArray, List.getElem?_cons_zero, List.getElem?_cons_succ]; rfl)); (focus (rw [hops.out]; rfl)); (focus (go_simp; constructor <;> with_reducible rfl)); (first | ((with_reducible refine (C8.out _ (HFx.out.trans HF)).mono ?_); rintro e w' ⟨rfl, hb⟩; refine ⟨_, rfl, hb, ?_⟩; intro a' ha'; simp only [Act.put, List.setIfInBounds_toArray, List.set_cons_zero, List.set_cons_succ] at ha'; subst ha'; replace HF := HF.call hb; clear hb)))
        repeat (refine sch_take (o := ?_) (v := ?_) (a' := ?_) (at_of hops.out ?_) ?_ (fun W hW => ?_) ?_ ?_; rotate_left 3; (focus (simp only [List.getElem?_toArray, List.getElem?_cons_zero, List.getElem?_cons_succ]; rfl)); (focus (rw [hops.out]; rfl)); (focus (have u5 := FB.cell (HF.trans hW) K5.out; have u6 := FB.cell (HF.trans hW) K6.out; have u7 := FB.cell (HF.trans hW) K7.out; have u8 := FB.cell (HF.trans hW) K8.out; go_simp; with_reducible rfl)); (focus (simp only [Act.put, List.setIfInBounds_toArray, List.set_cons_zero, List.set_cons_succ]; rfl)))
        (refine sch_call (o := ?_) (f := ?_) (args := ?_) (at_of hops.out ?_) ?_ ?_ ?_; rotate_left 3; (focus (simp only [List.getElem?_toArray, List.getElem?_cons_zero, List.getElem?_cons_succ]; rfl)); (focus (rw [hops.out]; rfl)); (focus (go_simp; constructor <;> with_reducible rfl)); (first | ((with_reducible refine (C9.out _ (HFx.out.trans HF)).mono ?_); rintro e w' ⟨rfl, hb⟩; refine ⟨_, rfl, hb, ?_⟩; intro a' ha'; simp only [Act.put, List.setIfInBounds_toArray, List.set_cons_zero, List.set_cons_succ] at ha'; subst ha'; replace HF := HF.call hb; clear hb)))
        (refine sch_call (o := ?_) (f := ?_) (args := ?_) (at_of hops.out ?_) ?_ ?_ ?_; rotate_left 3; (focus (simp only [List.getElem?_toArray, List.getElem?_cons_zero, List.getElem?_cons_succ]; rfl)); (focus (rw [hops.out]; rfl)); (focus (go_simp; constructor <;> with_reducible rfl)); (first | ((with_reducible refine (C10.out _ (HFx.out.trans HF)).mono ?_); rintro e w' ⟨rfl, hb⟩; refine ⟨_, rfl, hb, ?_⟩; intro a' ha'; simp only [Act.put, List.setIfInBounds_toArray, List.set_cons_zero, List.set_cons_succ] at ha'; subst ha'; replace HF := HF.call hb; clear hb)))
        repeat (refine sch_take (o := ?_) (v := ?_) (a' := ?_) (at_of hops.out ?_) ?_ (fun W hW => ?_) ?_ ?_; rotate_left 3; (focus (simp only [List.getElem?_toArray, List.getElem?_cons_zero, List.getElem?_cons_succ]; rfl)); (focus (rw [hops.out]; rfl)); (focus (go_simp; with_reducible rfl)); (focus (simp only [Act.put, List.setIfInBounds_toArray, List.set_cons_zero, List.set_cons_succ]; rfl)))
        refine sch_done ?_
        have HEND := Lib.hid (HW329.out.fb.trans (HFx.out.trans HF))
        clear hops HF K1 K2 K3 K4 K5 K6 K7 K8
        go_wp2
        go_ret
        exact ⟨rfl, HEND.out⟩
end Go.Proofs.Ytjhgnohofcahbaa
