/- Code, step by step. -/
import Derived.Test.YteijaoaiiddcgaaGreatDoorEvSnd2
namespace Go.Ev
open Go

section
variable {σ : Nat → Value} {P : Program} {gv : Nat → Option Pos}

theorem runN_head {m m1 m2 : Machine} (h1 : step P m = .next m1) (hne : m2 ≠ m) (hs : Steps P m m2) : Steps P m1 m2 := by
  obtain ⟨n, hn⟩ := hs
  cases n with
  | zero => simp [runN] at hn; exact absurd hn.symm hne
  | succ n =>
    simp only [runN, h1] at hn
    exact ⟨n, hn⟩

/-- The ends of code that are known here. -/
def exOk : Exit → Prop
  | .normal => True
  | .exit _ => True
  | .ret => True
  | _ => False

/-- One round of a loop, and the loop once more. -/
theorem wp_loop_again {cd : Code} {Q : Exit → Act → World → Prop} {a : Act} {w : World} (hQ : ∀ e a w, Q e a w → exOk e)
    (h : cd.wp P (Exit.then ((Code.loop cd).wp P Q) Q) a w) : (Code.loop cd).wp P Q a w := by
  intro b k cs
  obtain ⟨e, a1, w1, hq, harr⟩ := h b (.inLoop cd :: k) cs
  cases e with
  | normal =>
    obtain ⟨e2, a2, w2, hq2, harr2⟩ := hq b k cs
    have hst : Steps P (lone (b.at a (.code (.loop cd) :: k)) cs w) (lone (b.at a1 (.code cd :: .inLoop cd :: k)) cs w1) :=
      .head step_loop (Steps.trans harr (.one step_inLoop))
    have hlen : ∀ (id : Nat) (l k' : List Item), exitTo id l = some k' → k'.length ≤ l.length := by
      intro id l
      induction l with
      | nil => intro k' hk; cases hk
      | cons x l ih =>
        intro k' hk
        cases x <;> simp only [exitTo] at hk <;> first
          | (have := ih k' hk; simp; omega)
          | (split at hk
             · cases hk; simp
             · have := ih k' hk; simp; omega)
    refine ⟨e2, a2, w2, hq2, ?_⟩
    have hq3 := hQ _ _ _ hq2
    cases e2 with
    | normal =>
      refine hst.trans (runN_head step_loop ?_ harr2)
      intro hh
      have : (b.at a2 k).todo = (b.at a1 (.code (.loop cd) :: k)).todo := by
        have := congrArg (fun m : Machine => (m.gs.getD 0 default).frame.todo) hh
        simpa [lone] using this
      simp only [Frame.at] at this
      have := congrArg List.length this
      simp at this
    | exit id =>
      intro k' hk
      refine hst.trans (runN_head step_loop ?_ (harr2 k' hk))
      intro hh
      have : (b.at a2 k').todo = (b.at a1 (.code (.loop cd) :: k)).todo := by
        have := congrArg (fun m : Machine => (m.gs.getD 0 default).frame.todo) hh
        simpa [lone] using this
      simp only [Frame.at] at this
      have h1 := congrArg List.length this
      have h2 := hlen id k k' hk
      simp at h1
      omega
    | ret =>
      obtain ⟨todo, hs⟩ := harr2
      refine ⟨todo, hst.trans (runN_head step_loop ?_ hs)⟩
      intro hh
      have := congrArg (fun m : Machine => (match (m.gs.getD 0 default).frame.mode with | .returning => true | _ => false)) hh
      simp [lone, Frame.at] at this
    | goto l => exact hq3.elim
    | panic ch => exact hq3.elim
    | outgrown => exact hq3.elim
  | exit id => exact ⟨_, a1, w1, hq, .of_steps (.one step_loop) (.pass (x := .inLoop cd) rfl (fun _ _ => .inl (by simp)) harr)⟩
  | ret => exact ⟨_, a1, w1, hq, .of_steps (.one step_loop) (.pass (x := .inLoop cd) rfl (fun _ _ => .inl (by simp)) harr)⟩
  | goto l => exact (hQ _ _ _ hq).elim
  | panic ch => exact (hQ _ _ _ hq).elim
  | outgrown => exact (hQ _ _ _ hq).elim

theorem Post.exits {x : Ex} {e' : En} {h' : Tr Obj} {nx' : Pos} {c : Cx} {h : Tr Obj} {nx : Pos} {w : World} {nt : Nat} {ds : List Deferred} {e : Exit} {a : Act} {w' : World}
    (hp : Post σ P gv x e' h' nx' c h nx w nt ds e a w') : exOk e := by
  obtain ⟨rfl, _⟩ := hp
  cases x <;> trivial

/-- What is asked of a statement whose order is open. -/
def DrawOk (σ : Nat → Value) (P : Program) (gv : Nat → Option Pos) (ex : FuncId → List AV → Option AV) (cl : Callee) : Prop :=
  ∀ (id : Nat) (ops : Array Oper) nt e h nx x e' h' nx', evDraw P gv ex cl ops nt e h nx = .ok x e' h' nx' → ∀ c w (a : Act), Rel σ P gv c h nx w → EnvRel σ c e a.tmps → a.tmps.size = nt →
    (Code.region id ops true).wp P (Post σ P gv x e' h' nx' c h nx w nt a.defers) a w

end
end Go.Ev
