/- Code, step by step. -/
import Derived.Test.YteijaoaiiddcgaaGreatDoorEvSnd2
namespace Go.Ev
open Go

section
variable {σ : Nat → Value} {P : Program} {gv : Nat → Option Pos}

theorem runN_head {m m1 m2 : Machine} (h1 : step P m = .next m1) (hne : m2 ≠ m) (hs : Steps P m m2) : Steps P m1 m2 := by
  obtain ⟨n, hn⟩ := hs
  cases n with
  | zero => simp [runN] at hn; exact absurd hn.symm hne
  | succ n =>
    simp only [runN, h1] at hn
    exact ⟨n, hn⟩

/-- The ends of code that are known here. -/
def exOk : Exit → Prop
  | .normal => True
  | .exit _ => True
  | .ret => True
  | _ => False

/-- One round of a loop, and the loop once more. -/
theorem wp_loop_again {cd : Code} {Q : Exit → Act → World → Prop} {a : Act} {w : World} (hQ : ∀ e a w, Q e a w → exOk e)
    (h : cd.wp P (Exit.then ((Code.loop cd).wp P Q) Q) a w) : (Code.loop cd).wp P Q a w := by
  intro b k cs
  obtain ⟨e, a1, w1, hq, harr⟩ := h b (.inLoop cd :: k) cs
  cases e with
  | normal =>
    obtain ⟨e2, a2, w2, hq2, harr2⟩ := hq b k cs
    have hst : Steps P (lone (b.at a (.code (.loop cd) :: k)) cs w) (lone (b.at a1 (.code cd :: .inLoop cd :: k)) cs w1) :=
      .head step_loop (Steps.trans harr (.one step_inLoop))
    have hlen : ∀ (id : Nat) (l k' : List Item), exitTo id l = some k' → k'.length ≤ l.length := by
      intro id l
      induction l with
      | nil => intro k' hk; cases hk
      | cons x l ih =>
        intro k' hk
        cases x <;> simp only [exitTo] at hk <;> first
          | (have := ih k' hk; simp; omega)
          | (split at hk
             · cases hk; simp
             · have := ih k' hk; simp; omega)
    refine ⟨e2, a2, w2, hq2, ?_⟩
    have hq3 := hQ _ _ _ hq2
    cases e2 with
    | normal =>
      refine hst.trans (runN_head step_loop ?_ harr2)
      intro hh
      have : (b.at a2 k).todo = (b.at a1 (.code (.loop cd) :: k)).todo := by
        have := congrArg (fun m : Machine => (m.gs.getD 0 default).frame.todo) hh
        simpa [lone] using this
      simp only [Frame.at] at this
      have := congrArg List.length this
      simp at this
    | exit id =>
      intro k' hk
      refine hst.trans (runN_head step_loop ?_ (harr2 k' hk))
      intro hh
      have : (b.at a2 k').todo = (b.at a1 (.code (.loop cd) :: k)).todo := by
        have := congrArg (fun m : Machine => (m.gs.getD 0 default).frame.todo) hh
        simpa [lone] using this
      simp only [Frame.at] at this
      have h1 := congrArg List.length this
      have h2 := hlen id k k' hk
      simp at h1
      omega
    | ret =>
      obtain ⟨todo, hs⟩ := harr2
      refine ⟨todo, hst.trans (runN_head step_loop ?_ hs)⟩
      intro hh
      have := congrArg (fun m : Machine => (match (m.gs.getD 0 default).frame.mode with | .returning => true | _ => false)) hh
      simp [lone, Frame.at] at this
    | goto l => exact hq3.elim
    | panic ch => exact hq3.elim
    | outgrown => exact hq3.elim
  | exit id => exact ⟨_, a1, w1, hq, .of_steps (.one step_loop) (.pass (x := .inLoop cd) rfl (fun _ _ => .inl (by simp)) harr)⟩
  | ret => exact ⟨_, a1, w1, hq, .of_steps (.one step_loop) (.pass (x := .inLoop cd) rfl (fun _ _ => .inl (by simp)) harr)⟩
  | goto l => exact (hQ _ _ _ hq).elim
  | panic ch => exact (hQ _ _ _ hq).elim
  | outgrown => exact (hQ _ _ _ hq).elim

theorem Post.exits {x : Ex} {e' : Tr AV} {h' : Tr Obj} {nx' : Pos} {c : Cx} {h : Tr Obj} {nx : Pos} {w : World} {nt : Nat} {ds : List Deferred} {e : Exit} {a : Act} {w' : World}
    (hp : Post σ P gv x e' h' nx' c h nx w nt ds e a w') : exOk e := by
  obtain ⟨rfl, _⟩ := hp
  cases x <;> trivial

/-- What is asked of a statement whose order is open. -/
def DrawOk (σ : Nat → Value) (P : Program) (gv : Nat → Option Pos) (ex : FuncId → List AV → Option AV) (ih : Step) : Prop :=
  ∀ (id : Nat) (ops : Array Oper) nt e h nx x e' h' nx', evDraw P gv ex ih ops nt e h nx = .ok x e' h' nx' → ∀ c w (a : Act), Rel σ P gv c h nx w → EnvRel σ c e a.tmps → a.tmps.size = nt →
    (Code.region id ops true).wp P (Post σ P gv x e' h' nx' c h nx w nt a.defers) a w

theorem evStep_ok {ex : FuncId → List AV → Option AV} (hex : ExOk σ P ex) {ih : Step} (hih : StepOk σ P gv ih) (hd : DrawOk σ P gv ex ih) : StepOk σ P gv (evStep P gv ex ih) := by
  intro code nt e h nx x e' h' nx' he c w a R E hs
  unfold evStep at he
  cases code <;> simp only at he
  case skip => cases he; exact wp_skip ⟨rfl, c, R, Ext.refl .., E, hs, rfl⟩
  case label l => cases he; exact wp_label ⟨rfl, c, R, Ext.refl .., E, hs, rfl⟩
  case region id ops draw =>
    cases draw with
    | false => exact wp_region_list (evOps_ok hex hih ops.toList he c w a R E hs _ fun _ _ _ hp => hp)
    | true => exact hd id ops nt e h nx x e' h' nx' he c w a R E hs
  case seq p q =>
    cases h1 : ih p nt e h nx with
    | fail => rw [h1] at he; cases he
    | ok x1 e1 hh1 nx1 =>
      rw [h1] at he; simp only at he
      have hp := hih p nt e h nx x1 e1 hh1 nx1 h1 c w a R E hs
      refine wp_seq (wp_mono hp ?_)
      intro ex1 a1 w1 hq
      have hq0 := hq
      obtain ⟨rfl, c1, R1, X1, E1, hs1, hd1⟩ := hq
      cases x1 with
      | normal =>
        have := hih q nt e1 hh1 nx1 x e' h' nx' he c1 w1 a1 R1 E1 hs1
        exact wp_mono this fun ex2 a2 w2 hq2 => by rw [hd1] at hq2; exact hq2.from X1
      | exit id => cases he; exact hq0
      | ret => cases he; exact hq0
  case cond cnd p q =>
    split at he
    · rename_i t hc
      obtain ⟨h1, _⟩ := evA_ok E R hc
      cases t with
      | true => exact wp_cond_true h1 (hih p nt e h nx x e' h' nx' he c w a R E hs)
      | false => exact wp_cond_false h1 (hih q nt e h nx x e' h' nx' he c w a R E hs)
    · cases he
  case block id body =>
    cases h1 : ih body nt e h nx with
    | fail => rw [h1] at he; cases he
    | ok x1 e1 hh1 nx1 =>
      rw [h1] at he; simp only at he
      have hp := hih body nt e h nx x1 e1 hh1 nx1 h1 c w a R E hs
      refine wp_block (wp_mono hp ?_)
      intro ex1 a1 w1 hq
      obtain ⟨rfl, c1, R1, X1, E1, hs1, hd1⟩ := hq
      cases x1 with
      | normal => cases he; exact ⟨rfl, c1, R1, X1, E1, hs1, hd1⟩
      | ret => cases he; exact ⟨rfl, c1, R1, X1, E1, hs1, hd1⟩
      | exit id' =>
        simp only at he
        cases hb : Nat.beq id' id with
        | true =>
          rw [hb] at he; cases he
          have := Nat.eq_of_beq_eq_true hb
          show (if id' = id then _ else _)
          rw [if_pos this]
          exact ⟨rfl, c1, R1, X1, E1, hs1, hd1⟩
        | false =>
          rw [hb] at he; cases he
          have := Nat.ne_of_beq_eq_false hb
          show (if id' = id then _ else _)
          rw [if_neg this]
          exact ⟨rfl, c1, R1, X1, E1, hs1, hd1⟩
  case loop body =>
    cases h1 : ih body nt e h nx with
    | fail => rw [h1] at he; cases he
    | ok x1 e1 hh1 nx1 =>
      rw [h1] at he; simp only at he
      have hp := hih body nt e h nx x1 e1 hh1 nx1 h1 c w a R E hs
      refine wp_loop_again (fun _ _ _ hp => hp.exits) (wp_mono hp ?_)
      intro ex1 a1 w1 hq
      have hq0 := hq
      obtain ⟨rfl, c1, R1, X1, E1, hs1, hd1⟩ := hq
      cases x1 with
      | normal =>
        have := hih (.loop body) nt e1 hh1 nx1 x e' h' nx' he c1 w1 a1 R1 E1 hs1
        exact wp_mono this fun ex2 a2 w2 hq2 => by rw [hd1] at hq2; exact hq2.from X1
      | exit id => cases he; exact hq0
      | ret => cases he; exact hq0
  case scope body =>
    have hp := hih body nt e h nx x e' h' nx' he c w a R E hs
    refine wp_scope_straight (wp_mono hp ?_)
    intro ex1 a1 w1 hq
    have := hq.exits
    cases ex1 <;> first
      | exact hq
      | exact this.elim
  case exit id => cases he; exact wp_exit ⟨rfl, c, R, Ext.refl .., E, hs, rfl⟩
  case ret => cases he; exact wp_ret ⟨rfl, c, R, Ext.refl .., E, hs, rfl⟩
  all_goals cases he

end
end Go.Ev
