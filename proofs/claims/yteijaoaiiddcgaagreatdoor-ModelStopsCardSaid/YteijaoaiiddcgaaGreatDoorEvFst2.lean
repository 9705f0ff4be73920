/- Code in the quick machine: what it comes to, the model comes to in every world. -/
import Derived.Test.YteijaoaiiddcgaaGreatDoorEvFst1
import Derived.Test.YteijaoaiiddcgaaGreatDoorEvDrw4
namespace Go.Ev
open Go

section
variable {σ : Nat → Value} {P : Program} {gv : Nat → Option Pos} {ex : FuncId → List AV → Option AV} {nt : Nat} {ops : Array Oper}

/-- An operand's function. -/
def GOk (gv : Nat → Option Pos) (g : FG) (x : Operand) : Prop := ∀ e k, g e k = .fail ∨ ∃ v, evA gv e x = some v ∧ g e k = k v
def GsOk (gv : Nat → Option Pos) (g : FGs) (l : List Operand) : Prop := ∀ e k, g e k = .fail ∨ ∃ v, evAs (evA gv e) l = some v ∧ g e k = k v
def POk (nt : Nat) (p : FP) (d : Option Tmp) : Prop := ∀ v e k, p v e k = .fail ∨ ∃ e', putE nt d v e = some e' ∧ p v e k = k e'
def FOk (P : Program) (gv : Nat → Option Pos) (ex : FuncId → List AV → Option AV) (nt : Nat) (f : FOp) (o : Oper) : Prop :=
  ∀ cl e h nx k, f cl e h nx k = .fail ∨ ∃ xs v h' nx' e', evAs (evA gv e) o.op.operands.toList = some xs ∧ evO P ex cl o xs h nx = .val v h' nx' ∧ putE nt o.dst v e = some e' ∧ f cl e h nx k = k e' h' nx'

theorem compG_ok {x : Operand} {g : FG} (h : compG gv x = .mk g) : GOk gv g x := by
  intro e k
  unfold compG at h
  cases x with
  | tmp t => exact .inr ⟨getA e t, rfl, tmpW_ok h e k⟩
  | const v =>
    simp only at h
    cases e1 : ofVal v with
    | none => rw [e1] at h; cases h; exact .inl rfl
    | some a =>
      rw [e1] at h; simp only [AV.forceK_eq] at h; cases h
      exact .inr ⟨a, e1, rfl⟩
  | global g' =>
    simp only at h
    cases e1 : gv g' with
    | none => rw [e1] at h; cases h; exact .inl rfl
    | some b =>
      rw [e1] at h; cases h
      exact .inr ⟨.ptr b 0, by simp only [evA, e1], rfl⟩
  | func f => cases h; exact .inr ⟨_, rfl, rfl⟩

theorem compGs_ok : ∀ {l : List Operand} {g : FGs}, compGs gv l = .mk g → GsOk gv g l
  | [], g, h => by cases h; exact fun e k => .inr ⟨[], rfl, rfl⟩
  | x :: l, g, h => by
    unfold compGs at h
    cases e1 : compG gv x with
    | mk g1 =>
      cases e2 : compGs gv l with
      | mk g2 =>
        rw [e1, e2] at h; cases h
        intro e k
        unfold gsCons
        rcases compG_ok e1 e fun v => g2 e fun l => k (v :: l) with h1 | ⟨v, h1, h2⟩
        · exact .inl h1
        · rcases compGs_ok e2 e fun l => k (v :: l) with h3 | ⟨vs, h3, h4⟩
          · exact .inl (h2.trans h3)
          · exact .inr ⟨v :: vs, by rw [evAs, h1]; simp only [h3], h2.trans h4⟩

theorem compP_ok {d : Option Tmp} {p : FP} (h : compP nt d = .mk p) : POk nt p d := by
  intro v e k
  unfold compP at h
  cases d with
  | none => cases h; exact .inr ⟨e, rfl, rfl⟩
  | some d =>
    simp only at h
    cases e1 : Nat.blt d nt with
    | false => rw [e1] at h; cases h; exact .inl rfl
    | true =>
      rw [e1] at h
      exact .inr ⟨_, by simp only [putE, e1], putW_ok h v e k⟩

theorem wGen_ok {o : Oper} {f : FOp} (hw : wGen P gv ex nt o = .mk f) : FOk P gv ex nt f o := by
  unfold wGen at hw
  cases e2 : compP nt o.dst with
  | mk p =>
    rw [e2] at hw; cases hw
    intro cl e h nx k
    unfold fGen
    cases evAs (evA gv e) o.op.operands.toList with
    | none => exact .inl rfl
    | some xs =>
      simp only
      cases hr : evO P ex cl o xs h nx with
      | fail => exact .inl rfl
      | val v h' nx' =>
        simp only [AV.forceK_eq]
        rcases compP_ok e2 v e fun e => k e h' nx' with h3 | ⟨e', h3, h4⟩
        · exact .inl h3
        · exact .inr ⟨xs, v, h', nx', e', rfl, hr, h3, h4⟩

theorem bodyW_ok {o : Oper} {f : FOp} (hw : bodyW P gv ex nt o = .mk f) : FOk P gv ex nt f o := by
  have hcore := coreW_ok (P := P) o
  unfold bodyW at hw
  generalize coreW P o = cw at hw hcore
  cases hcore with
  | gen => exact wGen_ok hw
  | mv x ops eff al dep q ev =>
    simp only [w0] at hw
    cases e1 : compG gv x with
    | mk g =>
      cases e2 : compP nt o.dst with
      | mk p =>
        rw [e1, e2] at hw; cases hw
        intro cl e h nx k
        unfold op0
        rcases compG_ok e1 e fun x => p x e fun e => k e h nx with h1 | ⟨v, h1, h2⟩
        · exact .inl h1
        · rcases compP_ok e2 v e fun e => k e h nx with h3 | ⟨e', h3, h4⟩
          · exact .inl (h2.trans h3)
          · exact .inr ⟨[v], v, h, nx, e', by rw [ops, evAs, h1]; rfl, ev .., h3, h2.trans h4⟩
  | one x c dep ops eff al ev still ok =>
    simp only [w1] at hw
    cases e1 : compG gv x with
    | mk g =>
      cases e2 : compP nt o.dst with
      | mk p =>
        rw [e1, e2] at hw; cases hw
        intro cl e h nx k
        unfold op1
        rcases compG_ok e1 e fun x => c x h nx fun v h nx => p v e fun e => k e h nx with h1 | ⟨v, h1, h2⟩
        · exact .inl h1
        · rcases ok v h nx fun v h nx => p v e fun e => k e h nx with h5 | ⟨u, h5, h6⟩
          · exact .inl (h2.trans h5)
          · rcases compP_ok e2 u e fun e => k e h nx with h3 | ⟨e', h3, h4⟩
            · exact .inl (h2.trans (h6.trans h3))
            · exact .inr ⟨[v], u, h, nx, e', by rw [ops, evAs, h1]; rfl, by rw [ev, h5]; rfl, h3, h2.trans (h6.trans h4)⟩
  | two x y c dep ops eff al ev still ok =>
    simp only [w2] at hw
    cases e1 : compG gv x with
    | mk g =>
      cases e1' : compG gv y with
      | mk g' =>
        cases e2 : compP nt o.dst with
        | mk p =>
          rw [e1, e1', e2] at hw; cases hw
          intro cl e h nx k
          unfold op2
          rcases compG_ok e1 e fun x => g' e fun y => c x y h nx fun v h nx => p v e fun e => k e h nx with h1 | ⟨v, h1, h2⟩
          · exact .inl h1
          · rcases compG_ok e1' e fun y => c v y h nx fun v h nx => p v e fun e => k e h nx with h1' | ⟨v', h1', h2'⟩
            · exact .inl (h2.trans h1')
            · rcases ok v v' h nx fun v h nx => p v e fun e => k e h nx with h5 | ⟨u, h5, h6⟩
              · exact .inl (h2.trans (h2'.trans h5))
              · rcases compP_ok e2 u e fun e => k e h nx with h3 | ⟨e', h3, h4⟩
                · exact .inl (h2.trans (h2'.trans (h6.trans h3)))
                · exact .inr ⟨[v, v'], u, h, nx, e', by rw [ops, evAs, h1, evAs, h1']; rfl, by rw [ev, h5]; rfl, h3, h2.trans (h2'.trans (h6.trans h4))⟩
  | eff x y c ops eff ok =>
    simp only [w2] at hw
    cases e1 : compG gv x with
    | mk g =>
      cases e1' : compG gv y with
      | mk g' =>
        cases e2 : compP nt o.dst with
        | mk p =>
          rw [e1, e1', e2] at hw; cases hw
          intro cl e h nx k
          unfold op2
          rcases compG_ok e1 e fun x => g' e fun y => c x y h nx fun v h nx => p v e fun e => k e h nx with h1 | ⟨v, h1, h2⟩
          · exact .inl h1
          · rcases compG_ok e1' e fun y => c v y h nx fun v h nx => p v e fun e => k e h nx with h1' | ⟨v', h1', h2'⟩
            · exact .inl (h2.trans h1')
            · rcases ok ex cl v v' h nx fun v h nx => p v e fun e => k e h nx with h5 | ⟨u, h', nx', h5, h6⟩
              · exact .inl (h2.trans (h2'.trans h5))
              · rcases compP_ok e2 u e fun e => k e h' nx' with h3 | ⟨e', h3, h4⟩
                · exact .inl (h2.trans (h2'.trans (h6.trans h3)))
                · exact .inr ⟨[v, v'], u, h', nx', e', by rw [ops, evAs, h1, evAs, h1']; rfl, h5, h3, h2.trans (h2'.trans (h6.trans h4))⟩
  | call f xs eff ops ev =>
    simp only at hw
    cases e1 : compGs gv xs with
    | mk gs =>
      cases e2 : compP nt o.dst with
      | mk p =>
        rw [e1, e2] at hw; cases hw
        intro cl e h nx k
        unfold opCall
        try dsimp only
        rcases compGs_ok e1 e fun xs => Rs.valF (cl f xs h nx) fun v h nx => p v e fun e => k e h nx with h1 | ⟨ys, h1, h2⟩
        · exact .inl h1
        · rw [h2, valF_eq]
          cases hr : cl f ys h nx with
          | fail => exact .inl rfl
          | val v h' nx' =>
            rcases compP_ok e2 v e fun e => k e h' nx' with h3 | ⟨e', h3, h4⟩
            · exact .inl h3
            · exact .inr ⟨.func (.func f) [] [] :: ys, v, h', nx', e', by rw [ops, evAs]; simp only [evA, h1], by rw [ev, hr], h3, h4⟩

/-- An operation of a region, with its guard. -/
theorem compO_ok {o : Oper} {f : FOp} (hw : compO P gv ex ops nt o = .mk f) (cl : Callee) (e : En) (h : Tr Obj) (nx : Pos) (k : KN) : f cl e h nx k = .fail ∨
    (wantedA (getA e) ops o = some true ∧ ∃ xs v h' nx' e', evAs (evA gv e) o.op.operands.toList = some xs ∧ evO P ex cl o xs h nx = .val v h' nx' ∧ putE nt o.dst v e = some e' ∧ f cl e h nx k = k e' h' nx') ∨
    (wantedA (getA e) ops o = some false ∧ ∃ e', putE nt o.dst .undef e = some e' ∧ f cl e h nx k = k e' h nx) := by
  unfold compO at hw
  unfold wantedA
  cases hg : o.guard with
  | none =>
    rw [hg] at hw
    rcases bodyW_ok hw cl e h nx k with h1 | h1
    · exact .inl h1
    · exact .inr (.inl ⟨by first | rfl | trivial, h1⟩)
  | some jw =>
    obtain ⟨j, want⟩ := jw
    rw [hg] at hw; simp only at hw ⊢
    cases ho : ops[j]? with
    | none => rw [ho] at hw; cases hw; exact .inl rfl
    | some g =>
      rw [ho] at hw; simp only at hw ⊢
      cases hd : g.dst with
      | none => rw [hd] at hw; cases hw; exact .inl rfl
      | some d =>
        rw [hd] at hw; simp only at hw ⊢
        cases e1 : bodyW P gv ex nt o with
        | mk f1 =>
          cases e2 : compP nt o.dst with
          | mk p =>
            cases e3 : tmpW d with
            | mk q =>
              rw [e1, e2, e3] at hw; simp only at hw
              have hput : ∀ r, r = p .undef e (fun e => k e h nx) → r = .fail ∨ ∃ e', putE nt o.dst .undef e = some e' ∧ r = k e' h nx := by
                rintro r rfl
                exact compP_ok e2 .undef e fun e => k e h nx
              cases want with
              | true =>
                cases hw
                unfold fGuard
                rw [tmpW_ok e3]
                cases getA e d <;> first
                  | (exact .inl rfl)
                  | skip
                case undef =>
                  rcases hput _ rfl with h1 | h1
                  · exact .inl h1
                  · exact .inr (.inr ⟨rfl, h1⟩)
                case bool b =>
                  cases b with
                  | true =>
                    rcases bodyW_ok e1 cl e h nx k with h1 | h1
                    · exact .inl h1
                    · exact .inr (.inl ⟨rfl, h1⟩)
                  | false =>
                    rcases hput _ rfl with h1 | h1
                    · exact .inl h1
                    · exact .inr (.inr ⟨rfl, h1⟩)
              | false =>
                cases hw
                unfold fGuardN
                rw [tmpW_ok e3]
                cases getA e d <;> first
                  | (exact .inl rfl)
                  | skip
                case undef =>
                  rcases hput _ rfl with h1 | h1
                  · exact .inl h1
                  · exact .inr (.inr ⟨rfl, h1⟩)
                case bool b =>
                  cases b with
                  | false =>
                    rcases bodyW_ok e1 cl e h nx k with h1 | h1
                    · exact .inl h1
                    · exact .inr (.inl ⟨rfl, h1⟩)
                  | true =>
                    rcases hput _ rfl with h1 | h1
                    · exact .inl h1
                    · exact .inr (.inr ⟨rfl, h1⟩)

variable {cl : Callee}

theorem runL_ok (hex : ExOk σ P ex) (hcl : CallOk σ P gv cl) : ∀ (l : List Oper) (e : En) (h : Tr Obj) (nx : Pos) (k : KN), runL (compL P gv ex ops nt l) cl e h nx k = .fail ∨
    ∃ e' h' nx', runL (compL P gv ex ops nt l) cl e h nx k = k e' h' nx' ∧ ∀ c w (a : Act), Rel σ P gv c h nx w → EnvRel σ c e a.tmps → a.tmps.size = nt →
      ∀ Q : Exit → Act → World → Prop, (∀ ex a' w', Post σ P gv .normal e' h' nx' c h nx w nt a.defers ex a' w' → Q ex a' w') → wpList P ops Q l a w
  | [], e, h, nx, k => .inr ⟨e, h, nx, rfl, fun c w a R E hs Q hQ => hQ _ _ _ ⟨rfl, c, R, Ext.refl .., E, hs, rfl⟩⟩
  | o :: l, e, h, nx, k => by
    cases hw : compO P gv ex ops nt o with
    | mk f =>
      have hrun : runL (compL P gv ex ops nt (o :: l)) cl e h nx k = f cl e h nx fun e h nx => runL (compL P gv ex ops nt l) cl e h nx k := by
        unfold runL compL
        simp only
        rw [hw]
      rw [hrun]
      rcases compO_ok hw cl e h nx fun e h nx => runL (compL P gv ex ops nt l) cl e h nx k with h1 | ⟨hwant, xs, v, h1, nx1, e1, hx, ho, hp, hk⟩ | ⟨hwant, e1, hp, hk⟩
      · exact .inl h1
      · rw [hk]
        rcases runL_ok hex hcl l e1 h1 nx1 k with h2 | ⟨e', h', nx', h2, hwp⟩
        · exact .inl h2
        · refine .inr ⟨e', h', nx', h2, fun c w a R E hs Q hQ => ?_⟩
          unfold wpList
          rw [wantedA_ok E hwant]
          simp only [if_true]
          refine .inl (evO_ok hex hcl ho (evAs_vals (fun x _ v hv => evA_ok E R hv) hx) R ?_)
          intro c' w' R' X' hv'
          obtain ⟨g2, g3, g4⟩ := putE_ok (E.ext X'.agree X'.sub) hs hv' hp
          refine hwp c' w' _ R' g2 g3 Q fun ex a' w'' hpost => hQ _ _ _ ?_
          rw [g4] at hpost
          exact hpost.from X'
      · rw [hk]
        rcases runL_ok hex hcl l e1 h nx k with h2 | ⟨e', h', nx', h2, hwp⟩
        · exact .inl h2
        · refine .inr ⟨e', h', nx', h2, fun c w a R E hs Q hQ => ?_⟩
          unfold wpList
          rw [wantedA_ok E hwant]
          simp only [Bool.false_eq_true, if_false]
          obtain ⟨g2, g3, g4⟩ := putE_ok (v := .undef) E hs trivial hp
          refine hwp c w _ R g2 g3 Q fun ex a' w'' hpost => hQ _ _ _ ?_
          rw [g4] at hpost
          exact hpost

/- Regions whose order is open. -/
section
variable {all : List (Inf × Nat)}

def G2Ok (gv : Nat → Option Pos) (all : List (Inf × Nat)) (x : Inf) (g : FG2) (y : Operand) : Prop := ∀ V e k, g V e k = .fail ∨ ∃ v, opA gv all x V e y = some v ∧ g V e k = k v

theorem compG2_ok {x : Inf} {y : Operand} {g : FG2} (h : compG2 gv all x y = .mk g) : G2Ok gv all x g y := by
  intro V e k
  cases y with
  | tmp t =>
    simp only [compG2] at h
    simp only [opA]
    cases hw : writer t all with
    | none =>
      rw [hw] at h; simp only at h
      cases e1 : tmpW t with
      | mk g1 => rw [e1] at h; cases h; exact .inr ⟨_, rfl, tmpW_ok e1 e k⟩
    | some y =>
      rw [hw] at h; simp only at h ⊢
      cases hm : inMask x.m y.1.i with
      | true =>
        rw [hm] at h; simp only at h
        cases e1 : tmpW y.1.i with
        | mk g1 => rw [e1] at h; cases h; exact .inr ⟨_, rfl, tmpW_ok e1 V k⟩
      | false =>
        rw [hm] at h; simp only at h
        cases e1 : tmpW t with
        | mk g1 => rw [e1] at h; cases h; exact .inr ⟨_, rfl, tmpW_ok e1 e k⟩
  | const v =>
    simp only [compG2] at h
    cases e1 : compG gv (.const v) with
    | mk g1 => rw [e1] at h; cases h; exact compG_ok e1 e k
  | global n =>
    simp only [compG2] at h
    cases e1 : compG gv (.global n) with
    | mk g1 => rw [e1] at h; cases h; exact compG_ok e1 e k
  | func f =>
    simp only [compG2] at h
    cases e1 : compG gv (.func f) with
    | mk g1 => rw [e1] at h; cases h; exact compG_ok e1 e k

theorem compGs2_ok {x : Inf} : ∀ {l : List Operand} {g : FGs2}, compGs2 gv all x l = .mk g → ∀ V e k, g V e k = .fail ∨ ∃ v, evAs (opA gv all x V e) l = some v ∧ g V e k = k v
  | [], g, h => by cases h; exact fun V e k => .inr ⟨[], rfl, rfl⟩
  | y :: l, g, h => by
    unfold compGs2 at h
    cases e1 : compG2 gv all x y with
    | mk g1 =>
      cases e2 : compGs2 gv all x l with
      | mk g2 =>
        rw [e1, e2] at h; cases h
        intro V e k
        unfold gs2Cons
        rcases compG2_ok e1 V e fun v => g2 V e fun l => k (v :: l) with h1 | ⟨v, h1, h2⟩
        · exact .inl h1
        · rcases compGs2_ok e2 V e fun l => k (v :: l) with h3 | ⟨vs, h3, h4⟩
          · exact .inl (h2.trans h3)
          · exact .inr ⟨v :: vs, by rw [evAs, h1]; simp only [h3], h2.trans h4⟩

/-- An operation's function does what the operation does. -/
def DOk (P : Program) (gv : Nat → Option Pos) (ex : FuncId → List AV → Option AV) (ops : Array Oper) (all : List (Inf × Nat)) (x : Inf) (f : FD) : Prop :=
  ∀ cl V e h nx k, f cl V e h nx k = .fail ∨ ∃ v h' nx', evOne P gv ex cl ops all e x V h nx = .val v h' nx' ∧ f cl V e h nx k = k (En.put x.i v V) h' nx'

theorem evOne_eff {cl : Callee} {x : Inf} {V e : En} {h : Tr Obj} {nx : Pos} {xs : List AV} (hg : guardA ops V x.o = some true) (hx : evAs (opA gv all x V e) x.o.op.operands.toList = some xs) (he : isEff x.o = true) :
    evOne P gv ex cl ops all e x V h nx = evO P ex cl x.o xs h nx := by
  unfold evOne
  rw [hg]; simp only [hx, he, Bool.true_or]

theorem evOne_pure {cl : Callee} {x : Inf} {V e : En} {h : Tr Obj} {nx : Pos} {xs : List AV} (hg : guardA ops V x.o = some true) (hx : evAs (opA gv all x V e) x.o.op.operands.toList = some xs) (he : isEff x.o = false) (ha : isAlloc x.o = false) :
    evOne P gv ex cl ops all e x V h nx = Rs.pure h nx (qOf P x.o xs h) := by
  unfold evOne qOf
  rw [hg]; simp only [hx, he, ha, Bool.or_self]
  split
  · rename_i c hc; simp only [hc]
  · rename_i hne
    split
    · rename_i c hc; exact (hne c hc).elim
    · rfl

theorem compD0_ok {x : Inf} {p : FP} {f : FD} (hp : putW x.i = .mk p) (hw : compD0 P gv ex ops all x p = .mk f) (cl : Callee) (V e : En) (h : Tr Obj) (nx : Pos) (k : KD) (hg : guardA ops V x.o = some true) :
    f cl V e h nx k = .fail ∨ ∃ v h' nx', evOne P gv ex cl ops all e x V h nx = .val v h' nx' ∧ f cl V e h nx k = k (En.put x.i v V) h' nx' := by
  have hcore := coreW_ok (P := P) x.o
  unfold compD0 at hw
  generalize coreW P x.o = cw at hw hcore
  cases hcore with
  | gen =>
    cases hw
    unfold dGen
    cases hr : evOne P gv ex cl ops all e x V h nx with
    | fail => exact .inl rfl
    | val v h' nx' => exact .inr ⟨v, h', nx', rfl, by simp only [AV.forceK_eq, putW_ok hp]⟩
  | mv y ops' eff al dep q ev =>
    simp only at hw
    cases e1 : compG2 gv all x y with
    | mk g =>
      rw [e1] at hw; cases hw
      unfold d0
      try dsimp only
      rcases compG2_ok e1 V e fun x => p x V fun V => k V h nx with h1 | ⟨v, h1, h2⟩
      · exact .inl h1
      · refine .inr ⟨v, h, nx, ?_, by rw [h2, putW_ok hp]⟩
        rw [evOne_pure (xs := [v]) hg (by rw [ops', evAs, h1]; rfl) eff al, q]; rfl
  | one y c dep ops' eff al ev still ok =>
    simp only at hw
    cases e1 : compG2 gv all x y with
    | mk g =>
      rw [e1] at hw; cases hw
      unfold d1
      try dsimp only
      rcases compG2_ok e1 V e fun y => c y h nx fun v h nx => p v V fun V => k V h nx with h1 | ⟨v, h1, h2⟩
      · exact .inl h1
      · rcases ok v h nx fun v h nx => p v V fun V => k V h nx with h5 | ⟨u, h5, h6⟩
        · exact .inl (h2.trans h5)
        · refine .inr ⟨u, h, nx, ?_, by rw [h2, h6, putW_ok hp]⟩
          rw [evOne_pure (xs := [v]) hg (by rw [ops', evAs, h1]; rfl) eff al, h5]; rfl
  | two y z c dep ops' eff al ev still ok =>
    simp only at hw
    cases e1 : compG2 gv all x y with
    | mk g =>
      cases e1' : compG2 gv all x z with
      | mk g' =>
        rw [e1, e1'] at hw; cases hw
        unfold d2
        try dsimp only
        rcases compG2_ok e1 V e fun y => g' V e fun z => c y z h nx fun v h nx => p v V fun V => k V h nx with h1 | ⟨v, h1, h2⟩
        · exact .inl h1
        · rcases compG2_ok e1' V e fun z => c v z h nx fun v h nx => p v V fun V => k V h nx with h1' | ⟨v', h1', h2'⟩
          · exact .inl (h2.trans h1')
          · rcases ok v v' h nx fun v h nx => p v V fun V => k V h nx with h5 | ⟨u, h5, h6⟩
            · exact .inl (h2.trans (h2'.trans h5))
            · refine .inr ⟨u, h, nx, ?_, by rw [h2, h2', h6, putW_ok hp]⟩
              rw [evOne_pure (xs := [v, v']) hg (by rw [ops', evAs, h1, evAs, h1']; rfl) eff al, h5]; rfl
  | eff y z c ops' eff ok =>
    simp only at hw
    cases e1 : compG2 gv all x y with
    | mk g =>
      cases e1' : compG2 gv all x z with
      | mk g' =>
        rw [e1, e1'] at hw; cases hw
        unfold d2
        try dsimp only
        rcases compG2_ok e1 V e fun y => g' V e fun z => c y z h nx fun v h nx => p v V fun V => k V h nx with h1 | ⟨v, h1, h2⟩
        · exact .inl h1
        · rcases compG2_ok e1' V e fun z => c v z h nx fun v h nx => p v V fun V => k V h nx with h1' | ⟨v', h1', h2'⟩
          · exact .inl (h2.trans h1')
          · rcases ok ex cl v v' h nx fun v h nx => p v V fun V => k V h nx with h5 | ⟨u, h', nx', h5, h6⟩
            · exact .inl (h2.trans (h2'.trans h5))
            · refine .inr ⟨u, h', nx', ?_, by rw [h2, h2', h6, putW_ok hp]⟩
              rw [evOne_eff (xs := [v, v']) hg (by rw [ops', evAs, h1, evAs, h1']; rfl) eff, h5]
  | call f ys eff ops' ev =>
    simp only at hw
    cases e1 : compGs2 gv all x ys with
    | mk gs =>
      rw [e1] at hw; cases hw
      unfold dCall
      try dsimp only
      rcases compGs2_ok e1 V e fun xs => Rs.valF (cl f xs h nx) fun v h nx => p v V fun V => k V h nx with h1 | ⟨xs, h1, h2⟩
      · exact .inl h1
      · rw [h2, valF_eq]
        cases hr : cl f xs h nx with
        | fail => exact .inl rfl
        | val v h' nx' =>
          refine .inr ⟨v, h', nx', ?_, by simp only [putW_ok hp]⟩
          rw [evOne_eff (xs := .func (.func f) [] [] :: xs) hg (by rw [ops', evAs]; simp only [opA, h1]) eff, ev, hr]

theorem compD_ok {x : Inf} {f : FD} (hw : compD P gv ex ops all x = .mk f) : DOk P gv ex ops all x f := by
  intro cl V e h nx k
  unfold compD at hw
  cases hp : putW x.i with
  | mk p =>
    rw [hp] at hw; simp only at hw
    have hund : guardA ops V x.o = some false → ∃ v h' nx', evOne P gv ex cl ops all e x V h nx = .val v h' nx' ∧ (p .undef V fun V => k V h nx) = k (En.put x.i v V) h' nx' := fun hg =>
      ⟨.undef, h, nx, by unfold evOne; rw [hg], putW_ok hp ..⟩
    cases hg : x.o.guard with
    | none =>
      rw [hg] at hw; simp only at hw
      exact compD0_ok hp hw cl V e h nx k (by unfold guardA; rw [hg])
    | some jw =>
      obtain ⟨j, want⟩ := jw
      rw [hg] at hw; simp only at hw
      cases ho : ops[j]? with
      | none => rw [ho] at hw; cases hw; exact .inl rfl
      | some g =>
        rw [ho] at hw; simp only at hw
        cases hd : g.dst with
        | none => rw [hd] at hw; cases hw; exact .inl rfl
        | some d =>
          rw [hd] at hw; simp only at hw
          cases e1 : compD0 P gv ex ops all x p with
          | mk f1 =>
            cases e3 : tmpW j with
            | mk q =>
              rw [e1, e3] at hw; simp only at hw
              have hgA : guardA ops V x.o = match getA V j with | .bool b => some (b == want) | .undef => some false | _ => none := by
                unfold guardA; rw [hg]; simp only [ho, hd]; first | rfl | (cases getA V j <;> rfl)
              cases want with
              | true =>
                cases hw
                unfold dGuard
                rw [tmpW_ok e3]
                cases hv : getA V j <;> first
                  | (exact .inl rfl)
                  | skip
                case undef => exact .inr (hund (by rw [hgA, hv]))
                case bool b =>
                  cases b with
                  | true => exact compD0_ok hp e1 cl V e h nx k (by rw [hgA, hv]; rfl)
                  | false => exact .inr (hund (by rw [hgA, hv]; rfl))
              | false =>
                cases hw
                unfold dGuardN
                rw [tmpW_ok e3]
                cases hv : getA V j <;> first
                  | (exact .inl rfl)
                  | skip
                case undef => exact .inr (hund (by rw [hgA, hv]))
                case bool b =>
                  cases b with
                  | false => exact compD0_ok hp e1 cl V e h nx k (by rw [hgA, hv]; rfl)
                  | true => exact .inr (hund (by rw [hgA, hv]; rfl))

theorem runDs_ok {cl : Callee} {e : En} {hs : List (Tr Obj × Pos)} : ∀ (l : List Inf) (V : En) (h : Tr Obj) (nx : Pos) (k : KD), runDs (compDs P gv ex ops all l) cl V e h nx k = .fail ∨
    ∃ V' h' nx', evStage (evOne P gv ex cl ops all e) hs l V h nx = .ok V' h' nx' ((h', nx') :: hs) ∧ runDs (compDs P gv ex ops all l) cl V e h nx k = k V' h' nx'
  | [], V, h, nx, k => .inr ⟨V, h, nx, rfl, rfl⟩
  | x :: l, V, h, nx, k => by
    cases hw : compD P gv ex ops all x with
    | mk f =>
      have hrun : runDs (compDs P gv ex ops all (x :: l)) cl V e h nx k = f cl V e h nx fun V h nx => runDs (compDs P gv ex ops all l) cl V e h nx k := by
        unfold runDs compDs
        simp only
        rw [hw]
      rw [hrun]
      rcases compD_ok hw cl V e h nx fun V h nx => runDs (compDs P gv ex ops all l) cl V e h nx k with h1 | ⟨v, h1, nx1, h2, h3⟩
      · exact .inl h1
      · rcases runDs_ok (hs := hs) l (En.put x.i v V) h1 nx1 k with h4 | ⟨V', h', nx', h4, h5⟩
        · exact .inl (h3.trans h4)
        · refine .inr ⟨V', h', nx', ?_, h3.trans h5⟩
          rw [evStage, h2]
          exact h4

theorem runSs_ok {cl : Callee} {e : En} : ∀ (l : List (List Inf)) (V : En) (h : Tr Obj) (nx : Pos) (hs : List (Tr Obj × Pos)) (k : KS), runSs (compSs P gv ex ops all l) cl V e h nx hs k = .fail ∨
    ∃ V' h' nx' hs', evStages (evOne P gv ex cl ops all e) l V h nx hs = .ok V' h' nx' hs' ∧ runSs (compSs P gv ex ops all l) cl V e h nx hs k = k V' h' nx' hs'
  | [], V, h, nx, hs, k => .inr ⟨V, h, nx, hs, rfl, rfl⟩
  | s :: l, V, h, nx, hs, k => by
    have hrun : runSs (compSs P gv ex ops all (s :: l)) cl V e h nx hs k = runDs (compDs P gv ex ops all s) cl V e h nx fun V h nx => runSs (compSs P gv ex ops all l) cl V e h nx ((h, nx) :: hs) k := rfl
    rw [hrun]
    rcases runDs_ok (P := P) (gv := gv) (ex := ex) (ops := ops) (all := all) (cl := cl) (e := e) (hs := hs) s V h nx fun V h nx => runSs (compSs P gv ex ops all l) cl V e h nx ((h, nx) :: hs) k with h1 | ⟨V1, h1, nx1, h2, h3⟩
    · exact .inl h1
    · rcases runSs_ok l V1 h1 nx1 ((h1, nx1) :: hs) k with h4 | ⟨V', h', nx', hs', h4, h5⟩
      · exact .inl (h3.trans h4)
      · refine .inr ⟨V', h', nx', hs', ?_, h3.trans h5⟩
        rw [evStages, h2]
        exact h4

theorem sameF_ok (u v : AV) (t : Rs) : u.sameF v t = .fail ∨ (AV.eq u v = true ∧ u.sameF v t = t) := by
  have gen : ifF (AV.eq u v) t .fail = .fail ∨ (AV.eq u v = true ∧ ifF (AV.eq u v) t .fail = t) := by
    rw [ifF_eq]
    cases AV.eq u v with
    | true => exact .inr ⟨rfl, rfl⟩
    | false => exact .inl rfl
  unfold AV.sameF
  rw [intF_eq, ptrF_eq]
  cases u with
  | int k a =>
    simp only [intF_eq]
    cases v <;> first
      | (exact .inl rfl)
      | skip
    rename_i j b
    simp only [kindF_eq, ifF_eq]
    by_cases hk : k = j
    · subst hk
      rw [if_pos rfl]
      cases hb : Nat.beq a b with
      | true => exact .inr ⟨by simp [AV.eq, hb], rfl⟩
      | false => exact .inl rfl
    · rw [if_neg hk]; exact .inl rfl
  | ptr b n =>
    simp only [ptrF_eq]
    cases v <;> first
      | (exact .inl rfl)
      | skip
    rename_i c m
    simp only [ifF_eq]
    cases hb : Pos.eq b c with
    | false => exact .inl rfl
    | true =>
      cases hn : Nat.beq n m with
      | false => exact .inl rfl
      | true => exact .inr ⟨by simp [AV.eq, hb, hn], rfl⟩
  | _ => exact gen

mutual
theorem AV.eq_refl : ∀ v : AV, AV.eq v v = true
  | .undef | .nilp | .nils | .nilm | .nilf | .nili => rfl
  | .bool b => by simp [AV.eq]
  | .int k u => by simp [AV.eq]
  | .str n c => by simp [AV.eq]
  | .ptr b o => by simp [AV.eq, (Pos.eq_iff b b).2 rfl]
  | .slice b o l k => by simp [AV.eq, (Pos.eq_iff b b).2 rfl]
  | .sliceU b o l k => by simp [AV.eq, (Pos.eq_iff b b).2 rfl]
  | .sliceZ b o l k x => by simp [AV.eq, (Pos.eq_iff b b).2 rfl]
  | .map b => by simp [AV.eq, (Pos.eq_iff b b).2 rfl]
  | .func f a b => by simp [AV.eq, AV.eqL_refl a, AV.eqL_refl b]
  | .iface t v => by simp [AV.eq, AV.eq_refl v]
  | .agg a => by simp [AV.eq, AV.eqL_refl a]
  | .tup a => by simp [AV.eq, AV.eqL_refl a]
  | .sym i => by simp [AV.eq]
theorem AV.eqL_refl : ∀ l : List AV, AV.eqL l l = true
  | [] => rfl
  | v :: l => by simp [AV.eqL, AV.eq_refl v, AV.eqL_refl l]
end

theorem betweenF_ok {lo hi : Nat} {f : Tr Obj → Rs → Rs} {q : Tr Obj → Option AV} {v : AV} (hf : ∀ h t, f h t = .fail ∨ ((∃ u, q h = some u ∧ AV.eq u v = true) ∧ f h t = t)) : ∀ (hs : List (Tr Obj × Pos)) (n : Nat) (t : Rs),
    betweenF lo hi f hs n t = .fail ∨ (steady q v lo hi hs n = true ∧ betweenF lo hi f hs n t = t)
  | [], n, t => .inr ⟨rfl, rfl⟩
  | s :: l, n, t => by
    have hrun : betweenF lo hi f (s :: l) n t = ifF (Nat.ble lo (Nat.sub n 1)) (ifF (Nat.ble (Nat.sub n 1) hi) (f s.1 (betweenF lo hi f l (Nat.sub n 1) t)) (betweenF lo hi f l (Nat.sub n 1) t)) (betweenF lo hi f l (Nat.sub n 1) t) := rfl
    rw [hrun]
    simp only [ifF_eq, steady]
    have ih := betweenF_ok (lo := lo) (hi := hi) hf l (Nat.sub n 1) t
    cases Nat.ble lo (Nat.sub n 1) with
    | false => simpa using ih
    | true =>
      cases Nat.ble (Nat.sub n 1) hi with
      | false => simpa using ih
      | true =>
        simp only [Bool.and_self]
        rcases hf s.1 (betweenF lo hi f l (Nat.sub n 1) t) with h1 | ⟨⟨u, h1, h2⟩, h3⟩
        · exact .inl h1
        · rw [h3, h1]
          simp only [h2]
          exact ih

theorem steady_all {q : Tr Obj → Option AV} {v : AV} {lo hi : Nat} (h : ∀ h', q h' = some v) : ∀ (hs : List (Tr Obj × Pos)) (n : Nat), steady q v lo hi hs n = true
  | [], n => rfl
  | s :: l, n => by
    simp only [steady]
    split
    · rw [h s.1]
      simp only [AV.eq_refl]
      exact steady_all h l _
    · exact steady_all h l _

theorem steadyOp_eq {V e : En} {hs : List (Tr Obj × Pos)} {n : Nat} {x : Inf × Nat} {xs : List AV} (he : isEff x.1.o = false) (hd : isDep x.1.o = true) (hg : guardA ops V x.1.o = some true) (hx : evAs (opA gv all x.1 V e) x.1.o.op.operands.toList = some xs) :
    steadyOp P gv ops all e V hs n x = steady (fun h => qOf P x.1.o xs h) (getA V x.1.i) x.1.r x.2 hs n := by
  unfold steadyOp
  rw [he, hd, hg]
  simp only [hx]
  rfl

/-- What an operation that is no effect has yielded. -/
def Yields (P : Program) (gv : Nat → Option Pos) (ex : FuncId → List AV → Option AV) (ops : Array Oper) (all : List (Inf × Nat)) (cl : Callee) (e V : En) (x : Inf) : Prop :=
  ∃ h nx h' nx', evOne P gv ex cl ops all e x V h nx = .val (getA V x.i) h' nx'

theorem compH0_ok {cl : Callee} {V e : En} {n : Nat} {x : Inf × Nat} {f : FH} (hw : compH0 P gv ops all n x = .mk f) (he : isEff x.1.o = false) (hd : isDep x.1.o = true) (hg : guardA ops V x.1.o = some true)
    (hy : Yields P gv ex ops all cl e V x.1) (hs : List (Tr Obj × Pos)) (t : Rs) : f V e hs t = .fail ∨ (steadyOp P gv ops all e V hs n x = true ∧ f V e hs t = t) := by
  have hcore := coreW_ok (P := P) x.1.o
  unfold compH0 at hw
  generalize coreW P x.1.o = cw at hw hcore
  obtain ⟨h0, nx0, h0', nx0', hone⟩ := hy
  have hvals : ∃ xs, evAs (opA gv all x.1 V e) x.1.o.op.operands.toList = some xs := by
    unfold evOne at hone
    rw [hg] at hone; simp only at hone
    cases hx : evAs (opA gv all x.1 V e) x.1.o.op.operands.toList with
    | none => rw [hx] at hone; cases hone
    | some xs => exact ⟨xs, rfl⟩
  cases hcore with
  | gen =>
    cases hw
    unfold hGen
    rw [ifF_eq]
    cases hb : steadyOp P gv ops all e V hs n x with
    | false => exact .inl rfl
    | true => exact .inr ⟨rfl, rfl⟩
  | mv y ops' eff al dep q ev => rw [dep] at hd; cases hd
  | eff y z c ops' eff ok => rw [eff] at he; cases he
  | call f ys eff ops' ev => rw [eff] at he; cases he
  | one y c dep ops' eff al ev still ok =>
    obtain ⟨xs, hx⟩ := hvals
    cases dep with
    | false =>
      cases hw
      refine .inr ⟨?_, rfl⟩
      rw [evOne_pure hg hx eff al] at hone
      rw [steadyOp_eq he hd hg hx]
      rw [ops'] at hx
      rw [evAs] at hx
      cases ha : opA gv all x.1 V e y with
      | none => rw [ha] at hx; cases hx
      | some a =>
        rw [ha] at hx; cases hx
        cases hq : qOf P x.1.o [a] h0 with
        | none => rw [hq] at hone; cases hone
        | some v =>
          rw [hq] at hone; cases hone
          exact steady_all (fun h' => by rw [still rfl a h' h0, hq]) hs n
    | true =>
      simp only at hw
      cases e1 : compG2 gv all x.1 y with
      | mk g =>
        cases e2 : tmpW x.1.i with
        | mk v =>
          rw [e1, e2] at hw; cases hw
          unfold h1
          try dsimp only
          rw [tmpW_ok e2]
          rcases compG2_ok e1 V e fun a => betweenF x.1.r x.2 (fun h t => c a h .h fun u _ _ => u.sameF (getA V x.1.i) t) hs n t with k1 | ⟨a, k1, k2⟩
          · exact .inl k1
          · rw [k2]
            have hx' : evAs (opA gv all x.1 V e) x.1.o.op.operands.toList = some [a] := by rw [ops', evAs, k1]; rfl
            rw [steadyOp_eq he hd hg hx']
            refine betweenF_ok (q := fun h => qOf P x.1.o [a] h) (fun h t => ?_) hs n t
            rcases ok a h .h fun u _ _ => u.sameF (getA V x.1.i) t with k3 | ⟨u, k3, k4⟩
            · exact .inl k3
            · rw [k4]
              rcases sameF_ok u (getA V x.1.i) t with k5 | ⟨k5, k6⟩
              · exact .inl k5
              · exact .inr ⟨⟨u, k3, k5⟩, k6⟩
  | two y z c dep ops' eff al ev still ok =>
    obtain ⟨xs, hx⟩ := hvals
    cases dep with
    | false =>
      cases hw
      refine .inr ⟨?_, rfl⟩
      rw [evOne_pure hg hx eff al] at hone
      rw [steadyOp_eq he hd hg hx]
      rw [ops'] at hx
      rw [evAs] at hx
      cases ha : opA gv all x.1 V e y with
      | none => rw [ha] at hx; cases hx
      | some a =>
        rw [ha, evAs] at hx
        cases hb : opA gv all x.1 V e z with
        | none => rw [hb] at hx; cases hx
        | some b =>
          rw [hb] at hx; cases hx
          cases hq : qOf P x.1.o [a, b] h0 with
          | none => rw [hq] at hone; cases hone
          | some v =>
            rw [hq] at hone; cases hone
            exact steady_all (fun h' => by rw [still rfl a b h' h0, hq]) hs n
    | true =>
      simp only at hw
      cases e1 : compG2 gv all x.1 y with
      | mk g =>
        cases e1' : compG2 gv all x.1 z with
        | mk g' =>
          cases e2 : tmpW x.1.i with
          | mk v =>
            rw [e1, e1', e2] at hw; cases hw
            unfold h2
            try dsimp only
            rw [tmpW_ok e2]
            rcases compG2_ok e1 V e fun a => g' V e fun b => betweenF x.1.r x.2 (fun h t => c a b h .h fun u _ _ => u.sameF (getA V x.1.i) t) hs n t with k1 | ⟨a, k1, k2⟩
            · exact .inl k1
            · rw [k2]
              rcases compG2_ok e1' V e fun b => betweenF x.1.r x.2 (fun h t => c a b h .h fun u _ _ => u.sameF (getA V x.1.i) t) hs n t with k1' | ⟨b, k1', k2'⟩
              · exact .inl k1'
              · rw [k2']
                have hx' : evAs (opA gv all x.1 V e) x.1.o.op.operands.toList = some [a, b] := by rw [ops', evAs, k1, evAs, k1']; rfl
                rw [steadyOp_eq he hd hg hx']
                refine betweenF_ok (q := fun h => qOf P x.1.o [a, b] h) (fun h t => ?_) hs n t
                rcases ok a b h .h fun u _ _ => u.sameF (getA V x.1.i) t with k3 | ⟨u, k3, k4⟩
                · exact .inl k3
                · rw [k4]
                  rcases sameF_ok u (getA V x.1.i) t with k5 | ⟨k5, k6⟩
                  · exact .inl k5
                  · exact .inr ⟨⟨u, k3, k5⟩, k6⟩

theorem compH_ok {cl : Callee} {V e : En} {n : Nat} {x : Inf × Nat} {f : FH} (hw : compH P gv ops all n x = .mk f) (hy : isEff x.1.o = false → Yields P gv ex ops all cl e V x.1) (hs : List (Tr Obj × Pos)) (t : Rs) :
    f V e hs t = .fail ∨ (steadyOp P gv ops all e V hs n x = true ∧ f V e hs t = t) := by
  unfold compH at hw
  have gen : f = hGen P gv ops all n x → f V e hs t = .fail ∨ (steadyOp P gv ops all e V hs n x = true ∧ f V e hs t = t) := by
    rintro rfl
    unfold hGen
    rw [ifF_eq]
    cases hb : steadyOp P gv ops all e V hs n x with
    | false => exact .inl rfl
    | true => exact .inr ⟨rfl, rfl⟩
  cases hb : (isDep x.1.o && !isEff x.1.o) with
  | false =>
    rw [hb] at hw; cases hw
    exact .inr ⟨by unfold steadyOp; rw [hb], rfl⟩
  | true =>
    rw [hb] at hw; simp only at hw
    have hd : isDep x.1.o = true := by simp only [Bool.and_eq_true] at hb; exact hb.1
    have he : isEff x.1.o = false := by simp only [Bool.and_eq_true, Bool.not_eq_true'] at hb; exact hb.2
    cases e0 : compH0 P gv ops all n x with
    | mk f0 =>
      rw [e0] at hw; simp only at hw
      cases hg : x.1.o.guard with
      | none =>
        rw [hg] at hw; cases hw
        exact compH0_ok (ex := ex) (cl := cl) e0 he hd (by unfold guardA; rw [hg]) (hy he) hs t
      | some jw =>
        obtain ⟨j, want⟩ := jw
        rw [hg] at hw; simp only at hw
        cases ho : ops[j]? with
        | none => rw [ho] at hw; cases hw; exact gen rfl
        | some g =>
          rw [ho] at hw; simp only at hw
          cases hdst : g.dst with
          | none => rw [hdst] at hw; cases hw; exact gen rfl
          | some d =>
            rw [hdst] at hw; simp only at hw
            cases e3 : tmpW j with
            | mk q =>
              rw [e3] at hw; simp only at hw
              have hgA : guardA ops V x.1.o = match getA V j with | .bool b => some (b == want) | .undef => some false | _ => none := by
                unfold guardA; rw [hg]; simp only [ho, hdst]; first | rfl | (cases getA V j <;> rfl)
              have hund : guardA ops V x.1.o = some false → steadyOp P gv ops all e V hs n x = true := fun h => by unfold steadyOp; rw [hb, h]
              cases want with
              | true =>
                cases hw
                unfold hGuard
                try dsimp only
                rw [tmpW_ok e3]
                cases hv : getA V j <;> first
                  | (exact .inl rfl)
                  | skip
                case undef => exact .inr ⟨hund (by rw [hgA, hv]), rfl⟩
                case bool b =>
                  cases b with
                  | true => exact compH0_ok (ex := ex) (cl := cl) e0 he hd (by rw [hgA, hv]; rfl) (hy he) hs t
                  | false => exact .inr ⟨hund (by rw [hgA, hv]; rfl), rfl⟩
              | false =>
                cases hw
                unfold hGuardN
                try dsimp only
                rw [tmpW_ok e3]
                cases hv : getA V j <;> first
                  | (exact .inl rfl)
                  | skip
                case undef => exact .inr ⟨hund (by rw [hgA, hv]), rfl⟩
                case bool b =>
                  cases b with
                  | false => exact compH0_ok (ex := ex) (cl := cl) e0 he hd (by rw [hgA, hv]; rfl) (hy he) hs t
                  | true => exact .inr ⟨hund (by rw [hgA, hv]; rfl), rfl⟩

theorem runHs_ok {cl : Callee} {V e : En} {n : Nat} {hs : List (Tr Obj × Pos)} : ∀ (l : List (Inf × Nat)) (t : Rs), (∀ x ∈ l, isEff x.1.o = false → Yields P gv ex ops all cl e V x.1) →
    runHs (compHs P gv ops all n l) V e hs t = .fail ∨ (steadyAll P gv ops all e V hs n l = true ∧ runHs (compHs P gv ops all n l) V e hs t = t)
  | [], t, _ => .inr ⟨rfl, rfl⟩
  | x :: l, t, hy => by
    cases hw : compH P gv ops all n x with
    | mk f =>
      have hrun : runHs (compHs P gv ops all n (x :: l)) V e hs t = f V e hs (runHs (compHs P gv ops all n l) V e hs t) := by
        unfold runHs compHs
        simp only
        rw [hw]
      rw [hrun]
      rcases compH_ok (ex := ex) (cl := cl) hw (hy x List.mem_cons_self) hs (runHs (compHs P gv ops all n l) V e hs t) with k1 | ⟨k1, k2⟩
      · exact .inl k1
      · rw [k2]
        rcases runHs_ok (hs := hs) l t fun y hy' => hy y (List.mem_cons_of_mem _ hy') with k3 | ⟨k3, k4⟩
        · exact .inl k3
        · exact .inr ⟨by rw [steadyAll, k1]; exact k3, k4⟩

theorem runAs_ok {V : En} {h : Tr Obj} {nx : Pos} : ∀ (l : List (Inf × Nat)) (e : En) (k : En → Rs), runAs (compAs nt l) V e k = .fail ∨
    ∃ e', putAll nt V h nx l e = .ok .normal e' h nx ∧ runAs (compAs nt l) V e k = k e'
  | [], e, k => .inr ⟨e, rfl, rfl⟩
  | x :: l, e, k => by
    cases hw : compA nt x with
    | mk f =>
      have hrun : runAs (compAs nt (x :: l)) V e k = f V e fun e => runAs (compAs nt l) V e k := by
        unfold runAs compAs
        simp only
        rw [hw]
      rw [hrun]
      unfold compA at hw
      cases hd : x.1.o.dst with
      | none =>
        rw [hd] at hw; cases hw
        rcases runAs_ok l e k with k1 | ⟨e', k1, k2⟩
        · exact .inl k1
        · exact .inr ⟨e', by rw [putAll, hd]; exact k1, k2⟩
      | some d =>
        rw [hd] at hw; simp only at hw
        cases e1 : tmpW x.1.i with
        | mk v =>
          cases e2 : compP nt (some d) with
          | mk p =>
            rw [e1, e2] at hw; cases hw
            unfold aPut
            try dsimp only
            rw [tmpW_ok e1]
            rcases compP_ok e2 (getA V x.1.i) e fun e => runAs (compAs nt l) V e k with k1 | ⟨e1, k1, k2⟩
            · exact .inl k1
            · rcases runAs_ok l e1 k with k3 | ⟨e', k3, k4⟩
              · exact .inl (k2.trans k3)
              · exact .inr ⟨e', by rw [putAll, hd]; simp only [k1]; exact k3, k2.trans k4⟩

/-- A region whose order is open: the quick machine does what the slow one does. -/
theorem drawW_ok {f : FOp} (hw : drawW P gv ex ops nt = .mk f) (cl : Callee) (e : En) (h : Tr Obj) (nx : Pos) (k : KN) : f cl e h nx k = .fail ∨
    ∃ e' h' nx', evDraw P gv ex cl ops nt e h nx = .ok .normal e' h' nx' ∧ f cl e h nx k = k e' h' nx' := by
  unfold drawW at hw
  cases hp : plan ops with
  | none => rw [hp] at hw; cases hw; exact .inl rfl
  | some as =>
    obtain ⟨all, stages⟩ := as
    rw [hp] at hw; cases hw
    obtain ⟨kk, p, hstages⟩ := plan_ok hp
    unfold fDraw
    try dsimp only
    rcases runSs_ok (P := P) (gv := gv) (ex := ex) (ops := ops) (all := all) (cl := cl) (e := e) stages .new h nx [] fun V h nx hs => runHs (compHs P gv ops all stages.length all) V e hs (runAs (compAs nt all) V e fun e => k e h nx) with k1 | ⟨V, h1, n1, hs1, hst, k2⟩
    · exact .inl k1
    · rw [k2]
      have hyields : ∀ x ∈ all, isEff x.1.o = false → Yields P gv ex ops all cl e V x.1 := by
        intro x hx he
        have hstill : ∀ x, isEff x.o = false → Still (evOne P gv ex cl ops all e) x := fun x hx => evOne_still hx
        have hst2 := hst
        rw [hstages, List.range_eq_range'] at hst2
        obtain ⟨H, g1, g2, g3, _, g5⟩ := evStages_ok p hstill (kk + 1) 0 (by omega) hst2
        have hmem : x.1 ∈ stageOf x.1.r all := mem_stage.2 ⟨⟨x.2, hx⟩, rfl⟩
        rcases g5 x.1.r (Nat.zero_le _) (by have := (p.mem x hx).2.2.2; omega) with ⟨q0, S⟩ | ⟨_, x', l, ha, na, Vt, q1, q2, q3, q4, q5, S⟩
        · rw [q0] at hmem
          obtain ⟨Vt, ht, nt', ht1, nt1, r1, r2, r3, r4⟩ := S.each x.1 hmem
          rw [evOne_congr p hx r2] at r1
          exact ⟨ht, nt', ht1, nt1, r1⟩
        · rw [q1] at hmem
          rcases List.mem_cons.1 hmem with hh | hh
          · rw [← hh, he] at q2; cases q2
          · obtain ⟨Vt, ht, nt', ht1, nt1, r1, r2, r3, r4⟩ := S.each x.1 hh
            rw [evOne_congr p hx r2] at r1
            exact ⟨ht, nt', ht1, nt1, r1⟩
      rcases runHs_ok (ex := ex) (cl := cl) (e := e) (V := V) (hs := hs1) (n := stages.length) all (runAs (compAs nt all) V e fun e => k e h1 n1) hyields with k3 | ⟨k3, k4⟩
      · exact .inl k3
      · rw [k4]
        rcases runAs_ok (nt := nt) (V := V) (h := h1) (nx := n1) all e fun e => k e h1 n1 with k5 | ⟨e', k5, k6⟩
        · exact .inl k5
        · refine .inr ⟨e', h1, n1, ?_, k6⟩
          unfold evDraw
          rw [hp]
          simp only [hst, k3, k5]

end

/-- Where code goes on. -/
def goOn (x : Ex) (kn : KN) (kx : KX) : KN := match x with
  | .normal => kn
  | x => kx x

/-- What is shown of code. -/
def RunOk (σ : Nat → Value) (P : Program) (gv : Nat → Option Pos) (nt : Nat) (code : Code) (r : KN → KX → Rs) (e : En) (h : Tr Obj) (nx : Pos) : Prop :=
  ∀ kn kx, r kn kx = .fail ∨ ∃ x e' h' nx', r kn kx = goOn x kn kx e' h' nx' ∧ ∀ c w (a : Act), Rel σ P gv c h nx w → EnvRel σ c e a.tmps → a.tmps.size = nt →
    code.wp P (Post σ P gv x e' h' nx' c h nx w nt a.defers) a w

theorem runF_ok (hm : P.follows .mixedOrders = true) (hex : ExOk σ P ex) (hcl : CallOk σ P gv cl) : ∀ (code : Code) (e : En) (h : Tr Obj) (nx : Pos),
    RunOk σ P gv nt code (fun kn kx => runF (comp P gv ex nt code) cl e h nx kn kx) e h nx
  | .skip, e, h, nx => fun kn kx => .inr ⟨.normal, e, h, nx, rfl, fun c w a R E hs => wp_skip ⟨rfl, c, R, Ext.refl .., E, hs, rfl⟩⟩
  | .label l, e, h, nx => fun kn kx => .inr ⟨.normal, e, h, nx, rfl, fun c w a R E hs => wp_label ⟨rfl, c, R, Ext.refl .., E, hs, rfl⟩⟩
  | .region id ops draw, e, h, nx => fun kn kx => by
    cases draw with
    | false =>
      rcases runL_ok (ops := ops) (nt := nt) hex hcl ops.toList e h nx kn with h1 | ⟨e', h', nx', h1, h2⟩
      · exact .inl h1
      · exact .inr ⟨.normal, e', h', nx', h1, fun c w a R E hs => wp_region_list (h2 c w a R E hs _ fun _ _ _ hp => hp)⟩
    | true =>
      cases hw : drawW P gv ex ops nt with
      | mk f =>
        have hrun : runF (comp P gv ex nt (.region id ops true)) cl e h nx kn kx = f cl e h nx kn := by
          unfold runF comp
          simp only
          rw [hw]
        show runF (comp P gv ex nt (.region id ops true)) cl e h nx kn kx = .fail ∨ ∃ x e' h' nx', runF (comp P gv ex nt (.region id ops true)) cl e h nx kn kx = _ ∧ _
        rw [hrun]
        rcases drawW_ok hw cl e h nx kn with h1 | ⟨e', h', nx', h1, h2⟩
        · exact .inl h1
        · exact .inr ⟨.normal, e', h', nx', h2, fun c w a R E hs => drawOk hm hex hcl id ops nt e h nx .normal e' h' nx' h1 c w a R E hs⟩
  | .seq p q, e, h, nx => fun kn kx => by
    show runF (comp P gv ex nt p) cl e h nx (fun e h nx => runF (comp P gv ex nt q) cl e h nx kn kx) kx = .fail ∨ ∃ x e' h' nx', runF (comp P gv ex nt p) cl e h nx (fun e h nx => runF (comp P gv ex nt q) cl e h nx kn kx) kx = _ ∧ _
    rcases runF_ok hm hex hcl p e h nx (fun e h nx => runF (comp P gv ex nt q) cl e h nx kn kx) kx with h1 | ⟨x, e1, h1, nx1, hr, hwp⟩
    · exact .inl h1
    · dsimp only at hr
      rw [hr]
      cases x with
      | normal =>
        rcases runF_ok hm hex hcl q e1 h1 nx1 kn kx with h2 | ⟨x2, e2, h2, nx2, hr2, hwp2⟩
        · exact .inl h2
        · refine .inr ⟨x2, e2, h2, nx2, hr2, fun c w a R E hs => wp_seq (wp_mono (hwp c w a R E hs) ?_)⟩
          rintro ex1 a1 w1 ⟨rfl, c1, R1, X1, E1, hs1, hd1⟩
          exact wp_mono (hwp2 c1 w1 a1 R1 E1 hs1) fun ex2 a2 w2 hq2 => by rw [hd1] at hq2; exact hq2.from X1
      | exit id =>
        refine .inr ⟨.exit id, e1, h1, nx1, rfl, fun c w a R E hs => wp_seq (wp_mono (hwp c w a R E hs) ?_)⟩
        intro ex1 a1 w1 hq
        have hq0 := hq
        obtain ⟨rfl, _⟩ := hq
        exact hq0
      | ret =>
        refine .inr ⟨.ret, e1, h1, nx1, rfl, fun c w a R E hs => wp_seq (wp_mono (hwp c w a R E hs) ?_)⟩
        intro ex1 a1 w1 hq
        have hq0 := hq
        obtain ⟨rfl, _⟩ := hq
        exact hq0
  | .cond cnd p q, e, h, nx => fun kn kx => by
    cases hg : compG gv cnd with
    | mk g =>
      have hrun : runF (comp P gv ex nt (.cond cnd p q)) cl e h nx kn kx = g e fun v => v.boolF (runF (comp P gv ex nt p) cl e h nx kn kx) (runF (comp P gv ex nt q) cl e h nx kn kx) .fail := by
        unfold runF comp
        simp only
        rw [hg]
      show runF (comp P gv ex nt (.cond cnd p q)) cl e h nx kn kx = .fail ∨ ∃ x e' h' nx', runF (comp P gv ex nt (.cond cnd p q)) cl e h nx kn kx = _ ∧ _
      rw [hrun]
      rcases compG_ok hg e fun v => v.boolF (runF (comp P gv ex nt p) cl e h nx kn kx) (runF (comp P gv ex nt q) cl e h nx kn kx) .fail with h1 | ⟨v, hv, h1⟩
      · exact .inl h1
      · rw [h1, boolF_eq]
        cases v <;> first
          | (exact .inl rfl)
          | skip
        rename_i b
        cases b with
        | true =>
          rcases runF_ok hm hex hcl p e h nx kn kx with h2 | ⟨x, e1, h1, nx1, hr, hwp⟩
          · exact .inl h2
          · exact .inr ⟨x, e1, h1, nx1, hr, fun c w a R E hs => wp_cond_true (evA_ok E R hv).1 (hwp c w a R E hs)⟩
        | false =>
          rcases runF_ok hm hex hcl q e h nx kn kx with h2 | ⟨x, e1, h1, nx1, hr, hwp⟩
          · exact .inl h2
          · exact .inr ⟨x, e1, h1, nx1, hr, fun c w a R E hs => wp_cond_false (evA_ok E R hv).1 (hwp c w a R E hs)⟩
  | .block id body, e, h, nx => fun kn kx => by
    show runF (comp P gv ex nt body) cl e h nx kn (fun x e h nx => exitF id x (kn e h nx) (kx x e h nx)) = .fail ∨ ∃ x e' h' nx', runF (comp P gv ex nt body) cl e h nx kn (fun x e h nx => exitF id x (kn e h nx) (kx x e h nx)) = _ ∧ _
    rcases runF_ok hm hex hcl body e h nx kn (fun x e h nx => exitF id x (kn e h nx) (kx x e h nx)) with h1 | ⟨x, e1, h1, nx1, hr, hwp⟩
    · exact .inl h1
    · dsimp only at hr
      rw [hr]
      cases x with
      | normal =>
        refine .inr ⟨.normal, e1, h1, nx1, rfl, fun c w a R E hs => wp_block (wp_mono (hwp c w a R E hs) ?_)⟩
        rintro ex1 a1 w1 ⟨rfl, c1, R1, X1, E1, hs1, hd1⟩
        exact ⟨rfl, c1, R1, X1, E1, hs1, hd1⟩
      | ret =>
        refine .inr ⟨.ret, e1, h1, nx1, rfl, fun c w a R E hs => wp_block (wp_mono (hwp c w a R E hs) ?_)⟩
        rintro ex1 a1 w1 ⟨rfl, c1, R1, X1, E1, hs1, hd1⟩
        exact ⟨rfl, c1, R1, X1, E1, hs1, hd1⟩
      | exit id' =>
        show ifF (Nat.beq id' id) (kn e1 h1 nx1) (kx (.exit id') e1 h1 nx1) = .fail ∨ ∃ x e' h' nx', ifF (Nat.beq id' id) (kn e1 h1 nx1) (kx (.exit id') e1 h1 nx1) = _ ∧ _
        rw [ifF_eq]
        cases hb : Nat.beq id' id with
        | true =>
          have := Nat.eq_of_beq_eq_true hb
          refine .inr ⟨.normal, e1, h1, nx1, rfl, fun c w a R E hs => wp_block (wp_mono (hwp c w a R E hs) ?_)⟩
          rintro ex1 a1 w1 ⟨rfl, c1, R1, X1, E1, hs1, hd1⟩
          show (if id' = id then _ else _)
          rw [if_pos this]
          exact ⟨rfl, c1, R1, X1, E1, hs1, hd1⟩
        | false =>
          have := Nat.ne_of_beq_eq_false hb
          refine .inr ⟨.exit id', e1, h1, nx1, rfl, fun c w a R E hs => wp_block (wp_mono (hwp c w a R E hs) ?_)⟩
          rintro ex1 a1 w1 ⟨rfl, c1, R1, X1, E1, hs1, hd1⟩
          show (if id' = id then _ else _)
          rw [if_neg this]
          exact ⟨rfl, c1, R1, X1, E1, hs1, hd1⟩
  | .loop body, e, h, nx => fun kn kx => by
    have key : ∀ (n : Nat) (e : En) (h : Tr Obj) (nx : Pos),
        RunOk σ P gv nt (.loop body) (fun _ kx => againF n (fun again e h nx => runF (comp P gv ex nt body) cl e h nx again kx) e h nx) e h nx := by
      intro n
      induction n with
      | zero => intro e h nx kn kx; exact .inl rfl
      | succ n ih =>
        intro e h nx kn kx
        show runF (comp P gv ex nt body) cl e h nx (againF n fun again e h nx => runF (comp P gv ex nt body) cl e h nx again kx) kx = .fail ∨ ∃ x e' h' nx', runF (comp P gv ex nt body) cl e h nx (againF n fun again e h nx => runF (comp P gv ex nt body) cl e h nx again kx) kx = _ ∧ _
        rcases runF_ok hm hex hcl body e h nx (againF n fun again e h nx => runF (comp P gv ex nt body) cl e h nx again kx) kx with h1 | ⟨x, e1, h1, nx1, hr, hwp⟩
        · exact .inl h1
        · dsimp only at hr
          rw [hr]
          cases x with
          | normal =>
            rcases ih e1 h1 nx1 kn kx with h2 | ⟨x2, e2, h2, nx2, hr2, hwp2⟩
            · exact .inl h2
            · refine .inr ⟨x2, e2, h2, nx2, hr2, fun c w a R E hs => wp_loop_again (fun _ _ _ hp => hp.exits) (wp_mono (hwp c w a R E hs) ?_)⟩
              rintro ex1 a1 w1 ⟨rfl, c1, R1, X1, E1, hs1, hd1⟩
              exact wp_mono (hwp2 c1 w1 a1 R1 E1 hs1) fun ex2 a2 w2 hq2 => by rw [hd1] at hq2; exact hq2.from X1
          | exit id =>
            refine .inr ⟨.exit id, e1, h1, nx1, rfl, fun c w a R E hs => wp_loop_again (fun _ _ _ hp => hp.exits) (wp_mono (hwp c w a R E hs) ?_)⟩
            intro ex1 a1 w1 hq
            have hq0 := hq
            obtain ⟨rfl, _⟩ := hq
            exact hq0
          | ret =>
            refine .inr ⟨.ret, e1, h1, nx1, rfl, fun c w a R E hs => wp_loop_again (fun _ _ _ hp => hp.exits) (wp_mono (hwp c w a R E hs) ?_)⟩
            intro ex1 a1 w1 hq
            have hq0 := hq
            obtain ⟨rfl, _⟩ := hq
            exact hq0
    exact key rounds e h nx kn kx
  | .scope body, e, h, nx => fun kn kx => by
    rcases runF_ok hm hex hcl body e h nx kn kx with h1 | ⟨x, e1, h1, nx1, hr, hwp⟩
    · exact .inl h1
    · refine .inr ⟨x, e1, h1, nx1, hr, fun c w a R E hs => wp_scope_straight (wp_mono (hwp c w a R E hs) ?_)⟩
      intro ex1 a1 w1 hq
      have := hq.exits
      cases ex1 <;> first
        | exact hq
        | exact this.elim
  | .exit id, e, h, nx => fun kn kx => .inr ⟨.exit id, e, h, nx, rfl, fun c w a R E hs => wp_exit ⟨rfl, c, R, Ext.refl .., E, hs, rfl⟩⟩
  | .ret, e, h, nx => fun kn kx => .inr ⟨.ret, e, h, nx, rfl, fun c w a R E hs => wp_ret ⟨rfl, c, R, Ext.refl .., E, hs, rfl⟩⟩
  | .rangeFunc .., e, h, nx => fun kn kx => .inl rfl
  | .goto _, e, h, nx => fun kn kx => .inl rfl
  | .refuse _, e, h, nx => fun kn kx => .inl rfl

end
end Go.Ev
