/- Closed facts of the program, of all statements of the seat: no condition. -/
import Derived.Test.YteijaoaiiddcgaaGreatDoorEvFin0
import Derived.Test.YteijaoaiiddcgaaGreatDoorRows
namespace Go.Proofs.YteijaoaiiddcgaaGreatDoor
open Go Go.Ev
theorem own : ownKnob Tryz.prog.godebug = none := by kernel_rfl
theorem mixed : Tryz.prog.follows .mixedOrders = true := by kernel_rfl

theorem ext_ok (σ : Nat → Value) : ExOk σ Tryz.prog (exA 119 184) :=
  exA_ok (fne := Tryz.f119) (fni := Tryz.f184) Tryz.func119 Tryz.func184 (by kernel_rfl) (by kernel_rfl) (by kernel_rfl) (by kernel_rfl) (by kernel_rfl) (by kernel_rfl) (by kernel_rfl) (by kernel_rfl)

end Go.Proofs.YteijaoaiiddcgaaGreatDoor
