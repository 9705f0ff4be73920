/- Code: what the deterministic machine comes to, the model comes to in every world. -/
import Derived.Test.YteijaoaiiddcgaaGreatDoorEvSnd1
namespace Go.Ev
open Go

section
variable {σ : Nat → Value} {P : Program} {gv : Nat → Option Pos} {c : Cx} {h : Tr Obj} {nx : Pos} {w : World}

/-- Temporaries, here and there. -/
structure EnvRel (σ : Nat → Value) (c : Cx) (e : En) (tmps : Array Value) : Prop where
  get : ∀ i, i < tmps.size → tmps[i]? = some ((getA e i).conc σ c)
  out : ∀ i, tmps.size ≤ i → getA e i = .undef
  all : ∀ i, (getA e i).all c.L

theorem EnvRel.ext {c' : Cx} {e : En} {tmps : Array Value} (E : EnvRel σ c e tmps) (ha : Cx.agree c.L c c') (hs : ∀ b, c.L b → c'.L b) : EnvRel σ c' e tmps :=
  ⟨fun i hi => by rw [E.get i hi, AV.conc_agree ha _ (E.all i)], E.out, fun i => AV.all_mono hs _ (E.all i)⟩

theorem EnvRel.put {e : En} {tmps : Array Value} (E : EnvRel σ c e tmps) {t : Nat} (ht : t < tmps.size) {v : AV} (hv : v.all c.L) :
    EnvRel σ c (En.put t v e) (tmps.setIfInBounds t (v.conc σ c)) := by
  refine ⟨fun i hi => ?_, fun i hi => ?_, fun i => ?_⟩
  · simp only [Array.size_setIfInBounds] at hi
    rw [getA_set]
    by_cases hit : i = t
    · subst hit; simp [ht]
    · rw [if_neg hit, Array.getElem?_setIfInBounds_ne (Ne.symm hit)]; exact E.get i hi
  · simp only [Array.size_setIfInBounds] at hi
    rw [getA_set, if_neg (by omega)]
    exact E.out i hi
  · rw [getA_set]
    split
    · exact hv
    · exact E.all i

theorem EnvRel.getD {e : En} {tmps : Array Value} (E : EnvRel σ c e tmps) (i : Nat) : tmps.getD i undef = (getA e i).conc σ c := by
  rw [Array.getD_eq_getD_getElem?]
  by_cases hi : i < tmps.size
  · rw [E.get i hi]; rfl
  · rw [Array.getElem?_eq_none (by omega), E.out i (by omega)]
    rfl

theorem evA_ok {e : En} {a : Act} (E : EnvRel σ c e a.tmps) (R : Rel σ P gv c h nx w) {x : Operand} {v : AV} (hv : evA gv e x = some v) : a.eval x = v.conc σ c ∧ v.all c.L := by
  cases x with
  | tmp t =>
    simp only [evA, Option.some.injEq] at hv
    subst hv
    exact ⟨E.getD t, E.all t⟩
  | const v' =>
    obtain ⟨h1, h2⟩ := ofVal_ok hv
    exact ⟨(h1 σ c).symm, h2 _⟩
  | global g =>
    simp only [evA] at hv
    cases hg : gv g with
    | none => rw [hg] at hv; cases hv
    | some b =>
      rw [hg] at hv; cases hv
      obtain ⟨h1, h2⟩ := R.glob g b hg
      exact ⟨by simp only [Act.eval, AV.conc, h2], h1⟩
  | func f =>
    simp only [evA, Option.some.injEq] at hv
    subst hv
    exact ⟨rfl, trivial, trivial⟩

theorem evAs_vals {f : Operand → Option AV} {ρ : Operand → Value} : ∀ {l : List Operand} {xs : List AV}, (∀ x ∈ l, ∀ v, f x = some v → ρ x = v.conc σ c ∧ v.all c.L) → evAs f l = some xs → Vals σ c ρ l xs
  | [], xs, _, he => by cases he; exact ⟨rfl, trivial⟩
  | x :: l, xs, hf, he => by
    rw [evAs] at he
    cases e1 : f x with
    | none => rw [e1] at he; cases he
    | some a =>
      rw [e1] at he; simp only at he
      cases e2 : evAs f l with
      | none => rw [e2] at he; cases he
      | some y =>
        rw [e2] at he; cases he
        obtain ⟨h1, h2⟩ := hf x (by simp) a e1
        obtain ⟨h3, h4⟩ := evAs_vals (fun x hx => hf x (by simp [hx])) e2
        exact ⟨by rw [List.map_cons, AV.concL, h1, h3], h2, h4⟩

def Ex.toExit : Ex → Exit
  | .normal => .normal
  | .exit id => .exit id
  | .ret => .ret

/-- What holds behind code. -/
def Post (σ : Nat → Value) (P : Program) (gv : Nat → Option Pos) (x : Ex) (e' : En) (h' : Tr Obj) (nx' : Pos) (c : Cx) (h : Tr Obj) (nx : Pos) (w : World) (nt : Nat) (ds : List Deferred) : Exit → Act → World → Prop :=
  fun ex a' w' => ex = x.toExit ∧ ∃ c', Rel σ P gv c' h' nx' w' ∧ Ext c h nx w c' h' nx' w' ∧ EnvRel σ c' e' a'.tmps ∧ a'.tmps.size = nt ∧ a'.defers = ds

theorem Post.from {x : Ex} {e' : En} {h' h1 : Tr Obj} {nx' nx1 : Pos} {c1 : Cx} {w1 : World} {nt : Nat} {ds : List Deferred} (E : Ext c h nx w c1 h1 nx1 w1) {ex : Exit} {a' : Act} {w' : World}
    (hp : Post σ P gv x e' h' nx' c1 h1 nx1 w1 nt ds ex a' w') : Post σ P gv x e' h' nx' c h nx w nt ds ex a' w' := by
  obtain ⟨h2, c', h3, h4, h5⟩ := hp
  exact ⟨h2, c', h3, E.trans h4, h5⟩

/-- What holds behind a call. -/
def CallPost (σ : Nat → Value) (P : Program) (gv : Nat → Option Pos) (v : AV) (h' : Tr Obj) (nx' : Pos) (c : Cx) (h : Tr Obj) (nx : Pos) (w : World) : Ending → World → Prop :=
  fun e w' => ∃ c', e = .returned (v.conc σ c') ∧ Rel σ P gv c' h' nx' w' ∧ Ext c h nx w c' h' nx' w' ∧ v.all c'.L

theorem env_args {l : List AV} (hl : AV.allL c.L l) {nt : Nat} (hn : l.length ≤ nt) {e : En} (he : ∀ j, getA e j = if j < l.length then l[j]?.getD .undef else .undef) :
    EnvRel σ c e ((AV.concL σ c l).toArray ++ Array.replicate (nt - (AV.concL σ c l).toArray.size) undef) := by
  have hsz : (AV.concL σ c l).toArray.size = l.length := by simp [AV.concL_map]
  refine ⟨fun i hi => ?_, fun i hi => ?_, fun i => ?_⟩
  · rw [he i]
    by_cases hj : i < l.length
    · rw [if_pos hj, Array.getElem?_append_left (by omega), List.getElem?_eq_getElem hj]
      simp [AV.concL_map, hj]
    · rw [if_neg hj, Array.getElem?_append_right (by omega)]
      simp only [Array.size_append, hsz, Array.size_replicate] at hi
      rw [Array.getElem?_replicate, hsz, if_pos (by omega)]
      rfl
  · simp only [Array.size_append, hsz, Array.size_replicate] at hi
    rw [he i, if_neg (by omega)]
  · rw [he i]
    by_cases hj : i < l.length
    · rw [if_pos hj, List.getElem?_eq_getElem hj]
      exact (AV.allL_iff _ _).1 hl _ (List.getElem_mem hj)
    · rw [if_neg hj]; trivial

def resSem (tmps : Array Value) (r : ResultVar) : Sem Value :=
  match r with
  | .tmp t => pure (tmps.getD t undef)
  | .cell a t => do loadVar t (← asAddr (tmps.getD a undef))

theorem results_eq (fn : Func) (tmps : Array Value) : results fn tmps = (do
    let vs ← fn.results.mapM (resSem tmps)
    pure (if h : vs.size = 1 then vs[0] else .tuple vs)) := by
  unfold results
  congr 1

theorem resA_ok {e : En} {tmps : Array Value} (E : EnvRel σ c e tmps) (R : Rel σ P gv c h nx w) : ∀ {l : List ResultVar} {x : List AV}, resA P e h l = some x →
    (l.mapM (resSem tmps)).run P w = .ok (AV.concL σ c x) w ∧ AV.allL c.L x
  | [], x, he => by cases he; exact ⟨rfl, trivial⟩
  | .tmp t :: l, x, he => by
    rw [resA] at he
    cases e1 : resA P e h l with
    | none => rw [e1] at he; cases he
    | some y =>
      rw [e1] at he; cases he
      obtain ⟨h1, h2⟩ := resA_ok E R e1
      refine ⟨?_, E.all t, h2⟩
      rw [List.mapM_cons]
      have hq : (resSem tmps (.tmp t)).run P w = .ok ((getA e t).conc σ c) w := by simp only [resSem, Sem.run_pure, E.getD t]
      rw [Sem.run_bind, hq, Result.andThen_ok, Sem.run_bind, h1, Result.andThen_ok]
      rfl
  | .cell a t :: l, x, he => by
    rw [resA] at he
    split at he
    · rename_i b off hga
      split at he
      · rename_i v y e2 e1
        cases he
        obtain ⟨h1, h2⟩ := resA_ok E R e1
        have hb : c.L b := by have := E.all a; rw [hga] at this; exact this
        obtain ⟨h3, h4⟩ := loadAt_ok t b off hb e2 R
        refine ⟨?_, h4, h2⟩
        rw [List.mapM_cons]
        have hq : (resSem tmps (.cell a t)).run P w = .ok (v.conc σ c) w := by
          simp only [resSem, Sem.run_bind, E.getD a, hga, AV.conc, asAddr, Sem.run_pure, Result.andThen_ok, h3]
        rw [Sem.run_bind, hq, Result.andThen_ok, Sem.run_bind, h1, Result.andThen_ok]
        rfl
      · cases he
    · cases he

/-- What is known of functions holds. -/
def CallOk (σ : Nat → Value) (P : Program) (gv : Nat → Option Pos) (cl : Callee) : Prop :=
  ∀ f args c h nx w v h' nx', cl f args h nx = .val v h' nx' → Rel σ P gv c h nx w → AV.allL c.L args → Calls P f (AV.concL σ c args).toArray w (CallPost σ P gv v h' nx' c h nx w)

/-- An operation, in the midst of others. -/
theorem evO_ok {ex : FuncId → List AV → Option AV} (hex : ExOk σ P ex) {cl : Callee} (hcl : CallOk σ P gv cl) {o : Oper} {xs : List AV} {v : AV} {h' : Tr Obj} {nx' : Pos} (he : evO P ex cl o xs h nx = .val v h' nx') {a : Act}
    (hv : Vals σ c a.eval o.op.operands.toList xs) (R : Rel σ P gv c h nx w) {K : Act → World → Prop} {Q : Exit → Act → World → Prop}
    (hK : ∀ c' w', Rel σ P gv c' h' nx' w' → Ext c h nx w c' h' nx' w' → v.all c'.L → K (a.put o.dst (v.conc σ c')) w') : o.wp P a w K Q := by
  have hnext : NextOk σ P gv (execOp a.eval o) c h nx w (.val v h' nx') → o.wp P a w K Q := by
    rintro ⟨n, c', w', h1, h2, h3, h4, h5⟩
    unfold Oper.wp
    rw [h1]
    rcases h2 with rfl | ⟨rfl, h2⟩
    · exact hK c' w' h3 h4 h5
    · have := hK c' w' h3 h4 h5
      rw [h2] at this
      exact this
  unfold evO at he
  split at he
  · rename_i cc hop
    have hcc := evCl_ok hex hop hv R
    split at he
    · rename_i r hr
      rw [hr] at hcc
      rw [he] at hcc
      exact hnext hcc
    · rename_i f args hr
      rw [hr] at hcc
      obtain ⟨h1, h2⟩ := hcc
      unfold Oper.wp
      rw [h1]
      simp only [Oper.upon]
      have hcalls := hcl _ _ _ _ _ _ _ _ _ he R h2
      refine hcalls.mono ?_
      rintro e w' ⟨c', rfl, R', X', hv'⟩
      exact hK c' w' R' X' hv'
  · have := evS_ok (σ := σ) (c := c) hv R (nx := nx)
    rw [he] at this
    exact hnext this

theorem putE_ok {nt : Nat} {d : Option Tmp} {v : AV} {e e' : En} {a : Act} (E : EnvRel σ c e a.tmps) (hs : a.tmps.size = nt) (hv : v.all c.L) (hp : putE nt d v e = some e') :
    EnvRel σ c e' (a.put d (v.conc σ c)).tmps ∧ (a.put d (v.conc σ c)).tmps.size = nt ∧ (a.put d (v.conc σ c)).defers = a.defers := by
  unfold putE at hp
  cases d with
  | none => cases hp; exact ⟨E, hs, rfl⟩
  | some d =>
    simp only at hp
    cases hd : Nat.blt d nt with
    | false => rw [hd] at hp; cases hp
    | true =>
      rw [hd] at hp; cases hp
      have hd : d < nt := by rw [Nat.blt_eq] at hd; exact hd
      exact ⟨E.put (by rw [hs]; exact hd) hv, by simp [Act.put, hs], rfl⟩

theorem wantedA_ok {e : En} {a : Act} (E : EnvRel σ c e a.tmps) {ops : Array Oper} {o : Oper} {b : Bool} (he : wantedA (getA e) ops o = some b) : Region.wanted o (yielded ops a.tmps) = b := by
  unfold wantedA at he
  unfold Region.wanted
  cases hg : o.guard with
  | none => rw [hg] at he; cases he; rfl
  | some jw =>
    obtain ⟨j, want⟩ := jw
    rw [hg] at he; simp only at he ⊢
    cases ho : ops[j]? with
    | none => rw [ho] at he; cases he
    | some g =>
      rw [ho] at he; simp only at he
      cases hd : g.dst with
      | none => rw [hd] at he; cases he
      | some d =>
        rw [hd] at he; simp only at he
        have hy : yielded ops a.tmps j = (match a.tmps[d]? with | some (.bool b) => some b | _ => none) := by
          unfold yielded
          simp only [ho, hd, Option.bind_some]
          generalize a.tmps[d]? = q
          cases q with
          | none => rfl
          | some v => cases v <;> rfl
        rw [hy]
        by_cases hlt : d < a.tmps.size
        · rw [E.get d hlt]
          cases hv : getA e d with
          | bool x =>
            rw [hv] at he; cases he
            simp only [AV.conc]
            cases x <;> cases want <;> rfl
          | undef => rw [hv] at he; cases he; rfl
          | _ => rw [hv] at he; cases he
        · have hge : a.tmps.size ≤ d := Nat.le_of_not_lt hlt
          rw [Array.getElem?_eq_none hge]
          have : getA e d = .undef := E.out d hge
          rw [this] at he
          cases he; rfl

end
end Go.Ev
