/- ModelStops: the head of its function, walked; the rest by the evaluator, of five numbers. -/
import Derived.Test.YteijaoaiiddcgaaGreatDoorEvSt2
namespace Go.Proofs.YteijaoaiiddcgaaGreatDoor
open Go Go.Ev Go.RowKit

theorem stops_body : Tryz.f6.body = some (.seq (.region 0 #[{ dst := some 2, op := .assign (.const (.bool false)), type := 4, pos := "law.go:318", after := #[], guard := none }] false)
    (.seq (.region 1 #[{ dst := some 18, op := .move (.tmp 0), type := 3, pos := "law.go:319", after := #[], guard := none },
      { dst := some 19, op := .convert 3 46 (.tmp 18), type := 46, pos := "law.go:319", after := #[{ on := 0, ground := .data }], guard := none },
      { dst := some 20, op := .binOp .rem 46 (.tmp 19) (.const (.int .u64 5)) 46, type := 46, pos := "law.go:319", after := #[{ on := 1, ground := .data }], guard := none },
      { dst := some 21, op := .convert 46 3 (.tmp 20), type := 3, pos := "law.go:319", after := #[{ on := 2, ground := .data }], guard := none },
      { dst := some 3, op := .assign (.tmp 21), type := 3, pos := "law.go:319", after := #[{ on := 3, ground := .data }, { on := 0, ground := .phase }, { on := 1, ground := .phase }, { on := 2, ground := .phase }, { on := 3, ground := .phase }], guard := none }] false) stopsRest)) := by kernel_rfl

theorem rem5 (many : Int) : ∃ r : Nat, r < 5 ∧ (IntKind.u64.wrap many).tmod 5 = (r : Int) := by
  have h0 : 0 ≤ IntKind.u64.wrap many := by rw [IntKind.wrap_u64]; omega
  have h1 : (IntKind.u64.wrap many).tmod 5 = (IntKind.u64.wrap many) % 5 := Int.tmod_eq_emod_of_nonneg h0
  refine ⟨((IntKind.u64.wrap many) % 5).toNat, by omega, by rw [h1]; omega⟩

set_option maxRecDepth 100000 in
theorem stops_calls (hev : ∀ r, r < 5 → isTrue (stopsEv r) = true) (many : Int) (w : World) : Calls Tryz.prog 6 #[.int .i64 many] w fun e w' => e = .returned (.bool true) ∧ Below w.heap.size w w' := by
  refine calls_of_wp Tryz.func6 stops_body ?_
  rw [Tryz.ntmps6]
  obtain ⟨r, hr, hR⟩ := rem5 many
  obtain ⟨h', nx', hv⟩ := isTrue_ok (hev r hr)
  have σsc : ∀ i, ((fun i : Nat => if i = 0 then Value.int .i64 many else .int .u64 (IntKind.u64.wrap many)) i).oneCell' = true := fun i => by by_cases h : i = 0 <;> simp [h, Value.oneCell']
  have hwp := runFrom_ok mixed (lib_ok fun i : Nat => if i = 0 then Value.int .i64 many else .int .u64 (IntKind.u64.wrap many)) (callN_ok mixed (lib_ok _) 200) hv (Rel.bare σsc w) (by
    simp [stopsArgs, AV.allL, AV.all])
  have hwp2 : stopsRest.wp Tryz.prog (bodyPost Tryz.prog Tryz.f6 fun e w' => e = .returned (.bool true) ∧ Below w.heap.size w w') _ w := wp_mono hwp (by
    intro ex a' w' hp
    have hm : ∀ e w', CallPost (fun i : Nat => if i = 0 then Value.int .i64 many else .int .u64 (IntKind.u64.wrap many)) Tryz.prog noGlobal (.bool true) h' nx' Cx.bare .leaf .h w e w' → e = .returned (.bool true) ∧ Below w.heap.size w w' := by
      rintro e w' ⟨c', rfl, R, X, _⟩
      exact ⟨rfl, X.os, X.tape, X.output, X.size, fun i hi => X.heap i hi fun b hb => hb.elim⟩
    cases ex with
    | normal => obtain ⟨h1, v, h2, h3⟩ := hp; exact ⟨h1, v, h2, hm _ _ h3⟩
    | ret => obtain ⟨h1, v, h2, h3⟩ := hp; exact ⟨h1, v, h2, hm _ _ h3⟩
    | panic ch => obtain ⟨h1, h2⟩ := hp; exact ⟨h1, hm _ _ h2⟩
    | outgrown => exact hm _ _ hp
    | exit id => exact hp
    | goto l => exact hp)
  clear hwp
  have key : ∀ A B : Array Value, A = B → stopsRest.wp Tryz.prog (bodyPost Tryz.prog Tryz.f6 fun e w' => e = .returned (.bool true) ∧ Below w.heap.size w w') ⟨B, []⟩ w →
      stopsRest.wp Tryz.prog (bodyPost Tryz.prog Tryz.f6 fun e w' => e = .returned (.bool true) ∧ Below w.heap.size w w') ⟨A, []⟩ w := by
    rintro A B rfl h; exact h
  go_wp2
  have hcase : r = 0 ∨ r = 1 ∨ r = 2 ∨ r = 3 ∨ r = 4 := by omega
  rcases hcase with rfl | rfl | rfl | rfl | rfl
  all_goals exact key _ _ (by kernel_rfl) hwp2
end Go.Proofs.YteijaoaiiddcgaaGreatDoor
