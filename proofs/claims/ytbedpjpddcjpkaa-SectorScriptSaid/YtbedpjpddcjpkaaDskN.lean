/- The methods of a disk that is none. -/
import Derived.Test.YtbedpjpddcjpkaaDskL
set_option linter.unusedVariables false
set_option linter.unusedSimpArgs false
namespace Go.Proofs.Ytbedpjpddcjpkaa
open Go.ChangeShapes Go.WideShapes Go.ChangeAt Go.RowKit Go.MapKept

set_option maxRecDepth 100000
set_option maxHeartbeats 400000
theorem made_nil (w : World) : Calls Try.prog 36 #[.pointer none] w fun e w' => e = .returned (.bool false) ∧ w = w' := by
  go_enter Try.func36, Try.ntmps36
  go_wp2
  go_ret
  exact ⟨rfl, rfl⟩
theorem nil_Read (k : Int) (w : World) : Calls Try.prog 17 #[.pointer none, .int .i64 k] w fun e w' => e = .returned (.tuple #[.slice none 0 0, .int .i64 1]) ∧ w = w' := by
  go_enter Try.func17, Try.ntmps17
  go_wp2_with fail
  refine (made_nil _).mono ?_
  rintro e w1 ⟨rfl, rfl⟩
  go_wp2
  go_ret2
  exact ⟨rfl, rfl⟩
theorem nil_Write (k : Int) (v : Value) (w : World) : Calls Try.prog 14 #[.pointer none, .int .i64 k, v] w fun e w' => e = .returned (.int .i64 1) ∧ w = w' := by
  go_enter Try.func14, Try.ntmps14
  go_wp2_with fail
  refine (made_nil _).mono ?_
  rintro e w1 ⟨rfl, rfl⟩
  go_wp2
  go_ret
  exact ⟨rfl, rfl⟩
theorem nil_Flush (w : World) : Calls Try.prog 16 #[.pointer none] w fun e w' => e = .returned (.int .i64 1) ∧ w = w' := by
  go_enter Try.func16, Try.ntmps16
  go_wp2_with fail
  refine (made_nil _).mono ?_
  rintro e w1 ⟨rfl, rfl⟩
  go_wp2
  go_ret
  exact ⟨rfl, rfl⟩
theorem nil_Fail (k : Int) (w : World) : Calls Try.prog 22 #[.pointer none, .int .i64 k] w fun e w' => e = .returned (.int .i64 1) ∧ FB w w' := by
  have HF := Lib.hid ((FB.refl w).alloc (.cells #[.int .i64 k] 3))
  go_enter Try.func22, Try.ntmps22
  go_wp2_with fail
  refine (made_nil _).mono ?_
  rintro e w1 ⟨rfl, rfl⟩
  go_wp2
  go_ret
  exact ⟨rfl, HF.out⟩
theorem nil_Crash (A : Option Addr) (n c : Nat) (x y : Int) (w : World) : Calls Try.prog 18 #[.pointer none, .agg #[.slice A n c, .int .i64 x, .int .i64 y]] w fun e w' => e = .returned (.int .i64 1) ∧ FB w w' := by
  have HF := Lib.hid (fun (o : Obj) => (FB.refl w).alloc o)
  go_enter Try.func18, Try.ntmps18
  go_wp2_with fail
  refine (made_nil _).mono ?_
  rintro e w1 ⟨rfl, rfl⟩
  generalize hW : w.alloc _ = W
  have HW := Lib.hid (hW ▸ HF.out _)
  clear hW
  go_wp2
  go_ret
  exact ⟨rfl, HW.out⟩
theorem nil_Sectors (w : World) : Calls Try.prog 23 #[.pointer none] w fun e w' => e = .returned (.int .i64 0) ∧ w = w' := by
  go_enter Try.func23, Try.ntmps23
  go_wp2_with fail
  refine (made_nil _).mono ?_
  rintro e w1 ⟨rfl, rfl⟩
  go_wp2
  go_ret
  exact ⟨rfl, rfl⟩
theorem nil_Cached (w : World) : Calls Try.prog 20 #[.pointer none] w fun e w' => e = .returned (.slice none 0 0) ∧ w = w' := by
  go_enter Try.func20, Try.ntmps20
  go_wp2_with fail
  refine (made_nil _).mono ?_
  rintro e w1 ⟨rfl, rfl⟩
  go_wp2
  go_ret
  exact ⟨rfl, rfl⟩
theorem nil_Image (w : World) : Calls Try.prog 32 #[.pointer none] w fun e w' => e = .returned (.slice none 0 0) ∧ w = w' := by
  go_enter Try.func32, Try.ntmps32
  go_wp2_with fail
  refine (made_nil _).mono ?_
  rintro e w1 ⟨rfl, rfl⟩
  go_wp2
  go_ret
  exact ⟨rfl, rfl⟩
/-- A light crash. -/
theorem kit_LightCrash (KA : Option Addr) (kl kc : Nat) (torn bytes m : Int) (w : World) : Calls Try.prog 10 #[.agg #[.slice KA kl kc, .int .i64 torn, .int .i64 bytes], .int .i64 m] w fun e w' => e = .returned (.bool (decide ((kl : Int) ≤ m))) ∧ FB w w' := by
  have HF := Lib.hid ((FB.refl w).alloc (.cells #[.slice KA kl kc, .int .i64 torn, .int .i64 bytes] 25))
  generalize hC : decide ((kl : Int) ≤ m) = C
  go_enter Try.func10, Try.ntmps10
  go_wp2
  go_ret
  exact ⟨rfl, HF.out⟩
end Go.Proofs.Ytbedpjpddcjpkaa
