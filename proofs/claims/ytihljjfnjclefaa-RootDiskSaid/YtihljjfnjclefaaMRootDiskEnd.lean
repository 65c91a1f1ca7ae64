/- The row of RootDisk: the law's frame round its walk. What is proved: for every input the law returns true and each argument reads as before. No condition. -/
import Derived.Test.YtihljjfnjclefaaRows
import Derived.WalkKit
import Derived.ProofKit
import Derived.OpenShut
import Derived.ShutString
import Derived.ChangeOld
import Derived.Below
import Derived.Test.YtihljjfnjclefaaMRta
import Derived.Test.YtihljjfnjclefaaMRtb
import Derived.Test.YtihljjfnjclefaaMRtc
import Derived.Test.YtihljjfnjclefaaMRtd
import Derived.Test.YtihljjfnjclefaaMRte
import Derived.Test.YtihljjfnjclefaaMRtf
import Derived.Test.YtihljjfnjclefaaMRtg
import Derived.Test.YtihljjfnjclefaaMRth
import Derived.Test.YtihljjfnjclefaaMRti
import Derived.Test.YtihljjfnjclefaaMRtj
import Derived.Test.YtihljjfnjclefaaMRtk
import Derived.Test.YtihljjfnjclefaaMRtl
import Derived.Test.YtihljjfnjclefaaMRootDiska
import Derived.Test.YtihljjfnjclefaaMRootDiskb
import Derived.Test.YtihljjfnjclefaaMRootDiskc
import Derived.Test.YtihljjfnjclefaaMRootDiskd
import Derived.Test.YtihljjfnjclefaaMRootDiske
import Derived.Test.YtihljjfnjclefaaMRootDiskf
import Derived.Test.YtihljjfnjclefaaMRootDiskg
import Derived.Test.YtihljjfnjclefaaMRootDiskh
set_option linter.unusedVariables false
set_option linter.unusedSimpArgs false
namespace Go.Proofs.Ytihljjfnjclefaa.rootDisk
open Go.ChangeShapes Go.WideShapes Go.ChangeAt Go.RowKit
open Go.ChangeMaps (open_string shut_string)
set_option maxRecDepth 100000 in
theorem lifted (os : Os) (started : os.Started) (H : Type) (enc : TypeId × Value → H) :
    ReturnsInHanded {} Try.checked os 7 .any (Rows.rootDiskSpec.pre6 enc Try.prog Try.f7 Rows.rootDiskRow.domain false) (Rows.rootDiskSpec.post enc Try.prog Try.f7 false true false false) := by
  refine returnsInHanded_of_change (C := Try.checked) own_knob started (by kernel_rfl) Try.func7
    (ChangeSpec.witness6 (enc := enc) (C := Try.checked) false ⟨#[], #[.int .i64 0, .slice none 0 0, .int .i64 0, .agg #[.slice none 0 0, .int .i64 0, .int .i64 0]], []⟩ 8 (by kernel_rfl) (by kernel_rfl) (by kernel_rfl) (by kernel_rfl)) ?_
  intro W base args ds gs before hval0 hW hcnd _
  have hval : ∀ (j : Nat) t v, Try.f7.params[j]? = some t → args[j]? = some v → Value.okWide Try.prog W .any base t v := hval0
  have hW' := hW
  obtain ⟨p, q, hA0, hV, rfl, hfz, hnd⟩ := hW
  have hA : DataW.TrodAll enc Try.prog W 0 (fun _ => true) true Try.f7.params.toList args.toList ds p := hA0
  rw [Try.params7] at hA hval
  obtain ⟨v0, vs0, d0, ds0, p0, q0, hargs, rfl, rfl, h0, r0⟩ := trodAll_cons hA
  obtain ⟨v1, vs1, d1, ds1, p1, q1, rfl, rfl, rfl, h1, r1⟩ := trodAll_cons r0
  obtain ⟨v2, vs2, d2, ds2, p2, q2, rfl, rfl, rfl, h2, r2⟩ := trodAll_cons r1
  obtain ⟨v3, vs3, d3, ds3, p3, q3, rfl, rfl, rfl, h3, r3⟩ := trodAll_cons r2
  obtain ⟨rfl, rfl, rfl⟩ := trodAll_nil r3
  obtain rfl : args = #[v0, v1, v2, v3] := by cases args; simp_all
  obtain ⟨rfl, rfl⟩ := trodVars_none hV
  have k0 := h0
  have lt0 : ∀ x ∈ p0, x.block < W.heap.size := by obtain ⟨m, hm⟩ := k0; exact DataW.trod_lt m _ _ _ hm
  obtain ⟨a0, rfl, rfl, rfl, w0⟩ := open_int Try.underlying3 (hval 0 3 v0 rfl rfl) h0
  have k1 := h1
  have lt1 : ∀ x ∈ p1, x.block < W.heap.size := by obtain ⟨m, hm⟩ := k1; exact DataW.trod_lt m _ _ _ hm
  obtain ⟨A1, c1, ls1, rfl, hc1, hm1, hr1⟩ := open_roots (hval 1 49 v1 rfl rfl) h1
  have k2 := h2
  have lt2 : ∀ x ∈ p2, x.block < W.heap.size := by obtain ⟨m, hm⟩ := k2; exact DataW.trod_lt m _ _ _ hm
  obtain ⟨a2, rfl, rfl, rfl, w2⟩ := open_int Try.underlying3 (hval 2 3 v2 rfl rfl) h2
  have k3 := h3
  have lt3 : ∀ x ∈ p3, x.block < W.heap.size := by obtain ⟨m, hm⟩ := k3; exact DataW.trod_lt m _ _ _ hm
  obtain ⟨A3, c3, ks3, t3, y3, rfl, ha3, hb3, hr3, hc3, hd3⟩ := open_crash (hval 3 52 v3 rfl rfl) h3
  clear hA0 hval0
  refine (rootDisk_walk a0 A1 c1 ls1 a2 A3 c3 ks3 t3 y3 W (wf_i64 w0) hc1 hm1 hr1 (wf_i64 w2) ha3 hb3 hr3 hc3 hd3).mono fun e W' ⟨he, bel⟩ => ?_
  subst he
  exact ⟨_, rfl, _, _, _, [], _, [], hW', trodAll_mk1 (shut_bool Try.underlying4 _), (trodAll_cons_mk (shut_int Try.underlying3 w0) (trodAll_cons_mk (Below.trod laid_out (by kernel_rfl) (of_decide_eq_true (by kernel_rfl)) k1 bel lt1) (trodAll_cons_mk (shut_int Try.underlying3 w2) (trodAll_cons_mk (Below.trod laid_out (by kernel_rfl) (of_decide_eq_true (by kernel_rfl)) k3 bel lt3) trodAll_mk0)))), rfl, bel.frame _, fun h => by cases h⟩

theorem over : Rows.rootDiskRow.holds Try.pinned (OpenSpec.ofChange Rows.rootDiskSpec) :=
  OpenClaim.holds_of_wide 7 Try.f7 rfl rfl rfl rfl rfl rfl rfl ⟨rfl, rfl, rfl, rfl, rfl⟩ rfl rfl rfl rfl rfl (by kernel_rfl) Try.func7 (by kernel_rfl)
    (of_decide_eq_true (by kernel_rfl)) (by unfold Func.isWrapper; first | (rw [if_pos (by decide +kernel)]; kernel_rfl) | (rw [if_neg (by decide +kernel)]; exact ⟨rfl, rfl⟩))
    (fun os started H enc _ => lifted os started H enc)

/-- RootDisk: the given statement. -/
theorem proved : Rows.RootDiskSaid := over
end Go.Proofs.Ytihljjfnjclefaa.rootDisk
