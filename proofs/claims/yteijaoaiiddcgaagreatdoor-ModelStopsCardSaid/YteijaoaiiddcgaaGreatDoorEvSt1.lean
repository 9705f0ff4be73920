/- ModelStops: what the machine says of its five cases; no condition. -/
import Derived.Test.YteijaoaiiddcgaaGreatDoorEvSt2
namespace Go.Proofs.YteijaoaiiddcgaaGreatDoor
open Go Go.Ev Go.RowKit
theorem stops_ev0 : isTrue (stopsEv 0) = true := by decide +kernel
theorem stops_ev1 : isTrue (stopsEv 1) = true := by decide +kernel
theorem stops_ev2 : isTrue (stopsEv 2) = true := by decide +kernel
theorem stops_ev3 : isTrue (stopsEv 3) = true := by decide +kernel
theorem stops_ev4 : isTrue (stopsEv 4) = true := by decide +kernel
theorem stops_ev (r : Nat) (h : r < 5) : isTrue (stopsEv r) = true := by
  have hcase : r = 0 ∨ r = 1 ∨ r = 2 ∨ r = 3 ∨ r = 4 := by omega
  rcases hcase with rfl | rfl | rfl | rfl | rfl
  · exact stops_ev0
  · exact stops_ev1
  · exact stops_ev2
  · exact stops_ev3
  · exact stops_ev4
end Go.Proofs.YteijaoaiiddcgaaGreatDoor
