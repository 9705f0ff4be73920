/- ModelStops: its rest, as the evaluator has it. -/
import Derived.Test.YteijaoaiiddcgaaGreatDoorEvSum0
namespace Go.Proofs.YteijaoaiiddcgaaGreatDoor
open Go Go.Ev Go.RowKit

/-- What stands behind the number's reckoning. -/
noncomputable def stopsRest : Code := match Tryz.f6.body with
  | some (.seq _ (.seq _ r)) => r
  | _ => .skip

/-- The temporaries there. -/
def stopsArgs (r : Nat) : List AV := [.sym 0, .undef, .bool false, .int .i64 r, .undef, .undef, .undef, .undef, .undef, .undef, .undef, .undef, .undef, .undef, .undef, .undef, .undef, .undef, .sym 0, .sym 1, .int .u64 r, .int .i64 r]

noncomputable def stopsEv (r : Nat) : Rs := runFrom Tryz.prog noGlobal ⟨exA 119 184, sumW⟩ (callN Tryz.prog noGlobal ⟨exA 119 184, sumW⟩ 200) Tryz.f6 stopsRest (stopsArgs r) .leaf .h

end Go.Proofs.YteijaoaiiddcgaaGreatDoor
