/- The chapter's example, as the evaluator has it and in any world: true; no condition. -/
import Derived.Test.YteijaoaiiddcgaaGreatDoorEvFin0
import Derived.Test.YteijaoaiiddcgaaGreatDoorRows
namespace Go.Proofs.YteijaoaiiddcgaaGreatDoor
open Go Go.Ev Go.RowKit

theorem lives_ev : isTrue (callN Tryz.prog noGlobal (Lib.only (exA 119 184)) 200 9 [] .leaf .h) = true := by decide +kernel

theorem mixed : Tryz.prog.follows .mixedOrders = true := by kernel_rfl

theorem ext_ok (σ : Nat → Value) : ExOk σ Tryz.prog (exA 119 184) :=
  exA_ok (fne := Tryz.f119) (fni := Tryz.f184) Tryz.func119 Tryz.func184 (by kernel_rfl) (by kernel_rfl) (by kernel_rfl) (by kernel_rfl) (by kernel_rfl) (by kernel_rfl) (by kernel_rfl) (by kernel_rfl)

theorem lives_calls (w : World) : Calls Tryz.prog 9 #[] w fun e w' => e = .returned (.bool true) ∧ Below w.heap.size w w' :=
  calls_true (σ := fun _ => .bool true) mixed (fun _ => rfl) (LibOk.only (ext_ok _)) lives_ev trivial w

end Go.Proofs.YteijaoaiiddcgaaGreatDoor
