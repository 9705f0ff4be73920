/- A closed call, in any world. -/
import Derived.Test.YteijaoaiiddcgaaGreatDoorEvExt0
import Derived.Test.YteijaoaiiddcgaaGreatDoorEvFst3
import Derived.Below
namespace Go.Ev
open Go

/-- Nothing is known of memory. -/
def Cx.bare : Cx := ⟨fun _ => 0, fun _ => 0, fun _ => False⟩

def noGlobal : Nat → Option Pos := fun _ => none

theorem Rel.bare {σ : Nat → Value} {P : Program} (hσ : ∀ i, (σ i).oneCell' = true) (w : World) : Rel σ P noGlobal Cx.bare .leaf .h w :=
  ⟨fun _ h => h.elim, fun _ h => h.elim, fun _ _ h => h.elim, fun _ _ _ _ h => h.elim, fun _ _ h => h.elim, fun _ _ => Tr.get_e _, fun _ _ h => (by cases h), hσ⟩

/-- Nothing is known but of functions without a body. -/
def Lib.only (ex : FuncId → List AV → Option AV) : Lib := ⟨ex, fun _ => none⟩

theorem LibOk.only {σ : Nat → Value} {P : Program} {gv : Nat → Option Pos} {ex : FuncId → List AV → Option AV} (h : ExOk σ P ex) : LibOk σ P gv (Lib.only ex) :=
  ⟨h, fun _ _ _ _ _ _ _ _ _ _ he => by cases he⟩

/-- A call's true, as a test. -/
def isTrue : Rs → Bool
  | .val (.bool b) _ _ => b
  | _ => false

theorem isTrue_ok {r : Rs} (h : isTrue r = true) : ∃ h' nx', r = .val (.bool true) h' nx' := by
  cases r with
  | fail => cases h
  | val v h' nx' =>
    cases v <;> first
      | (cases h; done)
      | skip
    case bool b => cases b with
      | false => cases h
      | true => exact ⟨_, _, rfl⟩

theorem calls_true {P : Program} (hm : P.follows .mixedOrders = true) {lb : Lib} {σ : Nat → Value} (hσ : ∀ i, (σ i).oneCell' = true) (hlb : LibOk σ P noGlobal lb) {n : Nat} {f : FuncId} {args : List AV}
    (h : isTrue (callN P noGlobal lb n f args .leaf .h) = true) (ha : AV.allL (fun _ => False) args) (w : World) :
    Calls P f (AV.concL σ Cx.bare args).toArray w fun e w' => e = .returned (.bool true) ∧ RowKit.Below w.heap.size w w' := by
  obtain ⟨h', nx', h1⟩ := isTrue_ok h
  refine (callN_ok hm hlb n f args _ _ _ _ _ _ _ h1 (Rel.bare hσ w) ha).mono ?_
  rintro e w' ⟨c', rfl, R, X, _⟩
  exact ⟨rfl, X.os, X.tape, X.output, X.size, fun i hi => X.heap i hi fun b hb => hb.elim⟩

end Go.Ev
