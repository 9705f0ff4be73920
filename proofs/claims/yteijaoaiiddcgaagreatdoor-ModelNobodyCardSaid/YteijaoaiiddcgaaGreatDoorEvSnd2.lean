/- Code: what the deterministic machine comes to, the model comes to in every world. -/
import Derived.Test.YteijaoaiiddcgaaGreatDoorEvSnd1
namespace Go.Ev
open Go

section
variable {σ : Nat → Value} {P : Program} {gv : Nat → Option Pos} {c : Cx} {h : Tr Obj} {nx : Pos} {w : World}

/-- Temporaries, here and there. -/
structure EnvRel (σ : Nat → Value) (c : Cx) (e : Tr AV) (tmps : Array Value) : Prop where
  get : ∀ i, i < tmps.size → tmps[i]? = some ((getA e i).conc σ c)
  out : ∀ i, tmps.size ≤ i → Tr.get (posOf i) e = none
  all : ∀ i, (getA e i).all c.L

theorem EnvRel.ext {c' : Cx} {e : Tr AV} {tmps : Array Value} (E : EnvRel σ c e tmps) (ha : Cx.agree c.L c c') (hs : ∀ b, c.L b → c'.L b) : EnvRel σ c' e tmps :=
  ⟨fun i hi => by rw [E.get i hi, AV.conc_agree ha _ (E.all i)], E.out, fun i => AV.all_mono hs _ (E.all i)⟩

theorem getA_set (e : Tr AV) (t i : Nat) (v : AV) : getA (Tr.set (posOf t) v e) i = if i = t then v else getA e i := by
  unfold getA
  rw [Tr.get_set]
  by_cases hit : i = t
  · subst hit; simp
  · rw [if_neg hit, if_neg fun e => hit (posOf_inj e)]

theorem EnvRel.put {e : Tr AV} {tmps : Array Value} (E : EnvRel σ c e tmps) {t : Nat} (ht : t < tmps.size) {v : AV} (hv : v.all c.L) :
    EnvRel σ c (Tr.set (posOf t) v e) (tmps.setIfInBounds t (v.conc σ c)) := by
  refine ⟨fun i hi => ?_, fun i hi => ?_, fun i => ?_⟩
  · simp only [Array.size_setIfInBounds] at hi
    rw [getA_set]
    by_cases hit : i = t
    · subst hit; simp [ht]
    · rw [if_neg hit, Array.getElem?_setIfInBounds_ne (Ne.symm hit)]; exact E.get i hi
  · simp only [Array.size_setIfInBounds] at hi
    rw [Tr.get_set, if_neg fun e => by have := posOf_inj e; omega]
    exact E.out i hi
  · rw [getA_set]
    split
    · exact hv
    · exact E.all i

theorem EnvRel.getD {e : Tr AV} {tmps : Array Value} (E : EnvRel σ c e tmps) (i : Nat) : tmps.getD i undef = (getA e i).conc σ c := by
  rw [Array.getD_eq_getD_getElem?]
  by_cases hi : i < tmps.size
  · rw [E.get i hi]; rfl
  · rw [Array.getElem?_eq_none (by omega)]
    unfold getA
    rw [E.out i (by omega)]
    rfl

theorem evA_ok {e : Tr AV} {a : Act} (E : EnvRel σ c e a.tmps) (R : Rel σ P gv c h nx w) {x : Operand} {v : AV} (hv : evA gv e x = some v) : a.eval x = v.conc σ c ∧ v.all c.L := by
  cases x with
  | tmp t =>
    simp only [evA, Option.some.injEq] at hv
    subst hv
    exact ⟨E.getD t, E.all t⟩
  | const v' =>
    obtain ⟨h1, h2⟩ := ofVal_ok hv
    exact ⟨(h1 σ c).symm, h2 _⟩
  | global g =>
    simp only [evA] at hv
    cases hg : gv g with
    | none => rw [hg] at hv; cases hv
    | some b =>
      rw [hg] at hv; cases hv
      obtain ⟨h1, h2⟩ := R.glob g b hg
      exact ⟨by simp only [Act.eval, AV.conc, h2], h1⟩
  | func f =>
    simp only [evA, Option.some.injEq] at hv
    subst hv
    exact ⟨rfl, trivial, trivial⟩

theorem evAs_vals {f : Operand → Option AV} {ρ : Operand → Value} : ∀ {l : List Operand} {xs : List AV}, (∀ x ∈ l, ∀ v, f x = some v → ρ x = v.conc σ c ∧ v.all c.L) → evAs f l = some xs → Vals σ c ρ l xs
  | [], xs, _, he => by cases he; exact ⟨rfl, trivial⟩
  | x :: l, xs, hf, he => by
    rw [evAs] at he
    cases e1 : f x with
    | none => rw [e1] at he; cases he
    | some a =>
      rw [e1] at he; simp only at he
      cases e2 : evAs f l with
      | none => rw [e2] at he; cases he
      | some y =>
        rw [e2] at he; cases he
        obtain ⟨h1, h2⟩ := hf x (by simp) a e1
        obtain ⟨h3, h4⟩ := evAs_vals (fun x hx => hf x (by simp [hx])) e2
        exact ⟨by rw [List.map_cons, AV.concL, h1, h3], h2, h4⟩

def Ex.toExit : Ex → Exit
  | .normal => .normal
  | .exit id => .exit id
  | .ret => .ret

/-- What holds behind code. -/
def Post (σ : Nat → Value) (P : Program) (gv : Nat → Option Pos) (x : Ex) (e' : Tr AV) (h' : Tr Obj) (nx' : Pos) (c : Cx) (h : Tr Obj) (nx : Pos) (w : World) (nt : Nat) (ds : List Deferred) : Exit → Act → World → Prop :=
  fun ex a' w' => ex = x.toExit ∧ ∃ c', Rel σ P gv c' h' nx' w' ∧ Ext c h nx w c' h' nx' w' ∧ EnvRel σ c' e' a'.tmps ∧ a'.tmps.size = nt ∧ a'.defers = ds

def StepOk (σ : Nat → Value) (P : Program) (gv : Nat → Option Pos) (ih : Step) : Prop :=
  ∀ code nt e h nx x e' h' nx', ih code nt e h nx = .ok x e' h' nx' → ∀ c w (a : Act), Rel σ P gv c h nx w → EnvRel σ c e a.tmps → a.tmps.size = nt →
    code.wp P (Post σ P gv x e' h' nx' c h nx w nt a.defers) a w

theorem Post.from {x : Ex} {e' : Tr AV} {h' h1 : Tr Obj} {nx' nx1 : Pos} {c1 : Cx} {w1 : World} {nt : Nat} {ds : List Deferred} (E : Ext c h nx w c1 h1 nx1 w1) {ex : Exit} {a' : Act} {w' : World}
    (hp : Post σ P gv x e' h' nx' c1 h1 nx1 w1 nt ds ex a' w') : Post σ P gv x e' h' nx' c h nx w nt ds ex a' w' := by
  obtain ⟨h2, c', h3, h4, h5⟩ := hp
  exact ⟨h2, c', h3, E.trans h4, h5⟩

/-- What holds behind a call. -/
def CallPost (σ : Nat → Value) (P : Program) (gv : Nat → Option Pos) (v : AV) (h' : Tr Obj) (nx' : Pos) (c : Cx) (h : Tr Obj) (nx : Pos) (w : World) : Ending → World → Prop :=
  fun e w' => ∃ c', e = .returned (v.conc σ c') ∧ Rel σ P gv c' h' nx' w' ∧ Ext c h nx w c' h' nx' w' ∧ v.all c'.L

theorem envK_ok {R : Type} : ∀ (l : List AV) (i : Nat) (e : Tr AV), ∃ e', (∀ k : Tr AV → R, envK l i e k = k e') ∧ (∀ j, Tr.get (posOf j) e' = if i ≤ j ∧ j < i + l.length then l[j - i]? else Tr.get (posOf j) e)
  | [], i, e => ⟨e, fun _ => rfl, fun j => by rw [if_neg (by simp only [List.length_nil]; omega)]⟩
  | a :: l, i, e => by
    obtain ⟨e', h1, h2⟩ := envK_ok (R := R) l (i + 1) (Tr.set (posOf i) a e)
    refine ⟨e', fun k => ?_, fun j => ?_⟩
    · rw [envK, AV.forceK_eq, Tr.setK_eq, forceN_eq]; exact h1 k
    · rw [h2 j]
      by_cases hj : j = i
      · subst hj
        rw [if_neg (by omega), if_pos ⟨Nat.le_refl _, by simp⟩, Tr.get_set]
        simp
      · by_cases hc : i + 1 ≤ j ∧ j < i + 1 + l.length
        · rw [if_pos hc, if_pos ⟨by omega, by simp; omega⟩, show j - i = (j - (i + 1)) + 1 by omega, List.getElem?_cons_succ]
        · rw [if_neg hc, if_neg (by simp only [List.length_cons]; omega), Tr.get_set, if_neg fun q => hj (posOf_inj q)]

theorem env_args {l : List AV} (hl : AV.allL c.L l) {nt : Nat} (hn : l.length ≤ nt) {e : Tr AV} (he : ∀ j, Tr.get (posOf j) e = if 0 ≤ j ∧ j < 0 + l.length then l[j - 0]? else Tr.get (posOf j) .leaf) :
    EnvRel σ c e ((AV.concL σ c l).toArray ++ Array.replicate (nt - (AV.concL σ c l).toArray.size) undef) := by
  have hsz : (AV.concL σ c l).toArray.size = l.length := by simp [AV.concL_map]
  have hget : ∀ j, Tr.get (posOf j) e = l[j]? := by
    intro j
    rw [he j]
    by_cases hj : j < l.length
    · rw [if_pos ⟨Nat.zero_le _, by omega⟩, Nat.sub_zero]
    · rw [if_neg (by omega), Tr.get_e, List.getElem?_eq_none (by omega)]
  refine ⟨fun i hi => ?_, fun i hi => ?_, fun i => ?_⟩
  · unfold getA
    rw [hget i]
    by_cases hj : i < l.length
    · rw [Array.getElem?_append_left (by omega), List.getElem?_eq_getElem hj]
      simp [AV.concL_map, hj]
    · rw [Array.getElem?_append_right (by omega), List.getElem?_eq_none (by omega)]
      simp only [Array.size_append, hsz, Array.size_replicate] at hi
      rw [Array.getElem?_replicate, hsz, if_pos (by omega)]
      rfl
  · simp only [Array.size_append, hsz, Array.size_replicate] at hi
    rw [hget i, List.getElem?_eq_none (by omega)]
  · unfold getA
    rw [hget i]
    cases hj : l[i]? with
    | none => trivial
    | some v => exact (AV.allL_iff _ _).1 hl v (List.mem_of_getElem? hj)

def resSem (tmps : Array Value) (r : ResultVar) : Sem Value :=
  match r with
  | .tmp t => pure (tmps.getD t undef)
  | .cell a t => do loadVar t (← asAddr (tmps.getD a undef))

theorem results_eq (fn : Func) (tmps : Array Value) : results fn tmps = (do
    let vs ← fn.results.mapM (resSem tmps)
    pure (if h : vs.size = 1 then vs[0] else .tuple vs)) := by
  unfold results
  congr 1

theorem resA_ok {e : Tr AV} {tmps : Array Value} (E : EnvRel σ c e tmps) (R : Rel σ P gv c h nx w) : ∀ {l : List ResultVar} {x : List AV}, resA P e h l = some x →
    (l.mapM (resSem tmps)).run P w = .ok (AV.concL σ c x) w ∧ AV.allL c.L x
  | [], x, he => by cases he; exact ⟨rfl, trivial⟩
  | .tmp t :: l, x, he => by
    rw [resA] at he
    cases e1 : resA P e h l with
    | none => rw [e1] at he; cases he
    | some y =>
      rw [e1] at he; cases he
      obtain ⟨h1, h2⟩ := resA_ok E R e1
      refine ⟨?_, E.all t, h2⟩
      rw [List.mapM_cons]
      have hq : (resSem tmps (.tmp t)).run P w = .ok ((getA e t).conc σ c) w := by simp only [resSem, Sem.run_pure, E.getD t]
      rw [Sem.run_bind, hq, Result.andThen_ok, Sem.run_bind, h1, Result.andThen_ok]
      rfl
  | .cell a t :: l, x, he => by
    rw [resA] at he
    split at he
    · rename_i b off hga
      split at he
      · rename_i v y e2 e1
        cases he
        obtain ⟨h1, h2⟩ := resA_ok E R e1
        have hb : c.L b := by have := E.all a; rw [hga] at this; exact this
        obtain ⟨h3, h4⟩ := loadAt_ok t b off hb e2 R
        refine ⟨?_, h4, h2⟩
        rw [List.mapM_cons]
        have hq : (resSem tmps (.cell a t)).run P w = .ok (v.conc σ c) w := by
          simp only [resSem, Sem.run_bind, E.getD a, hga, AV.conc, asAddr, Sem.run_pure, Result.andThen_ok, h3]
        rw [Sem.run_bind, hq, Result.andThen_ok, Sem.run_bind, h1, Result.andThen_ok]
        rfl
      · cases he
    · cases he

theorem evFn_ok {ih : Step} (hih : StepOk σ P gv ih) {f : FuncId} {args : List AV} {v : AV} {h' : Tr Obj} {nx' : Pos} (he : evFn P ih f args h nx = .val v h' nx') (R : Rel σ P gv c h nx w) (ha : AV.allL c.L args) :
    Calls P f (AV.concL σ c args).toArray w (CallPost σ P gv v h' nx' c h nx w) := by
  unfold evFn at he
  cases hf : P.funcs[f]? with
  | none => rw [hf] at he; cases he
  | some fn =>
    rw [hf] at he; simp only at he
    cases hb : fn.body with
    | none => rw [hb] at he; cases he
    | some body =>
      rw [hb] at he; simp only at he
      cases hn : Nat.ble args.length fn.ntmps with
      | false => rw [hn] at he; cases he
      | true =>
        rw [hn] at he; simp only at he
        have hn := Nat.le_of_ble_eq_true hn
        obtain ⟨e0, h1, h2⟩ := envK_ok (R := Rs) args 0 (.leaf : Tr AV)
        rw [h1] at he
        have E0 := env_args (σ := σ) ha hn h2
        have hsz : (AV.concL σ c args).toArray.size = args.length := by simp [AV.concL_map]
        cases hr : ih body fn.ntmps e0 h nx with
        | fail => rw [hr] at he; cases he
        | ok x e1 h3 nx1 =>
          rw [hr] at he; simp only at he
          refine calls_of_wp hf hb (wp_mono (hih body fn.ntmps e0 h nx x e1 h3 nx1 hr c w _ R E0 (by simp only [Array.size_append, hsz, Array.size_replicate]; omega)) ?_)
          intro ex a' w' hp
          obtain ⟨hx, c', R', X', E', hs', hd'⟩ := hp
          have key : ∀ l, resA P e1 h3 fn.results.toList = some l → (match l with | [v] => Rs.val v h3 nx1 | l => .val (.tup l) h3 nx1) = .val v h' nx' →
              ∃ v0, (results fn a'.tmps).run P w' = .ok v0 w' ∧ CallPost σ P gv v h' nx' c h nx w (.returned v0) w' := by
            intro l hl hv
            obtain ⟨g1, g2⟩ := resA_ok E' R' hl
            have g3 : (results fn a'.tmps).run P w' = .ok (if hh : (AV.concL σ c' l).toArray.size = 1 then (AV.concL σ c' l).toArray[0] else .tuple (AV.concL σ c' l).toArray) w' := by
              rw [results_eq, Array.mapM_eq_mapM_toList]
              simp only [Sem.run_bind, Sem.run_map]
              rw [g1]
              simp only [Result.andThen_ok, Sem.run_pure]
            refine ⟨_, g3, ?_⟩
            split at hv
            · rename_i v1
              cases hv
              exact ⟨c', by simp [AV.concL], R', X', g2.1⟩
            · rename_i hne
              cases hv
              refine ⟨c', ?_, R', X', g2⟩
              have : ¬ (AV.concL σ c' l).toArray.size = 1 := by
                intro hh
                simp only [AV.concL_map, List.size_toArray, List.length_map] at hh
                obtain ⟨v1, hv1⟩ := List.length_eq_one_iff.1 hh
                exact hne v1 hv1
              rw [dif_neg this]
              rfl
          subst hx
          cases x with
          | exit id => cases he
          | normal =>
            simp only at he
            cases hl : resA P e1 h3 fn.results.toList with
            | none => rw [hl] at he; cases he
            | some l =>
              rw [hl] at he
              exact ⟨hd', key l hl he⟩
          | ret =>
            simp only at he
            cases hl : resA P e1 h3 fn.results.toList with
            | none => rw [hl] at he; cases he
            | some l =>
              rw [hl] at he
              exact ⟨hd', key l hl he⟩

/-- An operation, in the midst of others. -/
theorem evO_ok {ex : FuncId → List AV → Option AV} (hex : ExOk σ P ex) {ih : Step} (hih : StepOk σ P gv ih) {o : Oper} {xs : List AV} {v : AV} {h' : Tr Obj} {nx' : Pos} (he : evO P ex ih o xs h nx = .val v h' nx') {a : Act}
    (hv : Vals σ c a.eval o.op.operands.toList xs) (R : Rel σ P gv c h nx w) {K : Act → World → Prop} {Q : Exit → Act → World → Prop}
    (hK : ∀ c' w', Rel σ P gv c' h' nx' w' → Ext c h nx w c' h' nx' w' → v.all c'.L → K (a.put o.dst (v.conc σ c')) w') : o.wp P a w K Q := by
  have hnext : NextOk σ P gv (execOp a.eval o) c h nx w (.val v h' nx') → o.wp P a w K Q := by
    rintro ⟨n, c', w', h1, h2, h3, h4, h5⟩
    unfold Oper.wp
    rw [h1]
    rcases h2 with rfl | ⟨rfl, h2⟩
    · exact hK c' w' h3 h4 h5
    · have := hK c' w' h3 h4 h5
      rw [h2] at this
      exact this
  unfold evO at he
  split at he
  · rename_i cl hop
    have hcl := evCl_ok hex hop hv R
    split at he
    · rename_i r hr
      rw [hr] at hcl
      rw [he] at hcl
      exact hnext hcl
    · rename_i f args hr
      rw [hr] at hcl
      obtain ⟨h1, h2⟩ := hcl
      unfold Oper.wp
      rw [h1]
      simp only [Oper.upon]
      refine (evFn_ok hih he R h2).mono ?_
      rintro e w' ⟨c', rfl, R', X', hv'⟩
      exact hK c' w' R' X' hv'
  · have := evS_ok (σ := σ) (c := c) hv R (nx := nx)
    rw [he] at this
    exact hnext this

theorem putK_ok {R : Type} {nt : Nat} {dst : Option Tmp} {v : AV} {e : Tr AV} {a : Act} (E : EnvRel σ c e a.tmps) (hs : a.tmps.size = nt) (hv : v.all c.L) (k : Tr AV → R) (f : R) :
    (∃ e', putK nt dst v e k f = k e' ∧ EnvRel σ c e' (a.put dst (v.conc σ c)).tmps ∧ (a.put dst (v.conc σ c)).tmps.size = nt ∧ (a.put dst (v.conc σ c)).defers = a.defers) ∨ putK nt dst v e k f = f := by
  unfold putK
  cases dst with
  | none => exact .inl ⟨e, rfl, E, hs, rfl⟩
  | some d =>
    simp only []
    cases hd : Nat.blt d nt with
    | false => exact .inr rfl
    | true =>
      have hd : d < nt := by rw [Nat.blt_eq] at hd; exact hd
      refine .inl ⟨Tr.set (posOf d) v e, ?_, E.put (by rw [hs]; exact hd) hv, by simp [Act.put, hs], rfl⟩
      simp only [AV.forceK_eq, Tr.setK_eq]

theorem wantedA_ok {e : Tr AV} {a : Act} (E : EnvRel σ c e a.tmps) {ops : Array Oper} {o : Oper} {b : Bool} (he : wantedA (getA e) ops o = some b) : Region.wanted o (yielded ops a.tmps) = b := by
  unfold wantedA at he
  unfold Region.wanted
  cases hg : o.guard with
  | none => rw [hg] at he; cases he; rfl
  | some jw =>
    obtain ⟨j, want⟩ := jw
    rw [hg] at he; simp only at he ⊢
    cases ho : ops[j]? with
    | none => rw [ho] at he; cases he
    | some g =>
      rw [ho] at he; simp only at he
      cases hd : g.dst with
      | none => rw [hd] at he; cases he
      | some d =>
        rw [hd] at he; simp only at he
        have hy : yielded ops a.tmps j = (match a.tmps[d]? with | some (.bool b) => some b | _ => none) := by
          unfold yielded
          simp only [ho, hd, Option.bind_some]
          generalize a.tmps[d]? = q
          cases q with
          | none => rfl
          | some v => cases v <;> rfl
        rw [hy]
        by_cases hlt : d < a.tmps.size
        · rw [E.get d hlt]
          cases hv : getA e d with
          | bool x =>
            rw [hv] at he; cases he
            simp only [AV.conc]
            cases x <;> cases want <;> rfl
          | undef => rw [hv] at he; cases he; rfl
          | _ => rw [hv] at he; cases he
        · have hge : a.tmps.size ≤ d := Nat.le_of_not_lt hlt
          rw [Array.getElem?_eq_none hge]
          have : getA e d = .undef := by unfold getA; rw [E.out d hge]
          rw [this] at he
          cases he; rfl

theorem evOps_ok {ex : FuncId → List AV → Option AV} (hex : ExOk σ P ex) {ih : Step} (hih : StepOk σ P gv ih) {ops : Array Oper} {nt : Nat} : ∀ (l : List Oper) {e : Tr AV} {h : Tr Obj} {nx : Pos} {x : Ex} {e' : Tr AV} {h' : Tr Obj} {nx' : Pos},
    evOps P gv ex ih ops nt l e h nx = .ok x e' h' nx' → ∀ c w (a : Act), Rel σ P gv c h nx w → EnvRel σ c e a.tmps → a.tmps.size = nt →
    ∀ Q : Exit → Act → World → Prop, (∀ ex a' w', Post σ P gv x e' h' nx' c h nx w nt a.defers ex a' w' → Q ex a' w') → wpList P ops Q l a w
  | [], e, h, nx, x, e', h', nx', he, c, w, a, R, E, hs, Q, hQ => by
    cases he
    exact hQ _ _ _ ⟨rfl, c, R, Ext.refl .., E, hs, rfl⟩
  | o :: l, e, h, nx, x, e', h', nx', he, c, w, a, R, E, hs, Q, hQ => by
    rw [evOps] at he
    unfold wpList
    cases hw : wantedA (getA e) ops o with
    | none => rw [hw] at he; cases he
    | some b =>
      rw [hw] at he
      rw [wantedA_ok E hw]
      cases b with
      | true =>
        simp only at he
        simp only [if_true]
        cases hx : evAs (evA gv e) o.op.operands.toList with
        | none => rw [hx] at he; cases he
        | some xs =>
          rw [hx] at he; simp only at he
          cases ho : evO P ex ih o xs h nx with
          | fail => rw [ho] at he; cases he
          | val v h1 nx1 =>
            rw [ho] at he; simp only at he
            refine .inl (evO_ok hex hih ho (evAs_vals (fun x _ v hv => evA_ok E R hv) hx) R ?_)
            intro c' w' R' X' hv'
            have E' := E.ext X'.agree X'.sub
            rcases putK_ok (dst := o.dst) E' hs hv' (fun e => evOps P gv ex ih ops nt l e h1 nx1) Out.fail with ⟨e2, g1, g2, g3, g4⟩ | g1
            · rw [g1] at he
              refine evOps_ok hex hih l he c' w' _ R' g2 g3 Q fun ex a' w'' hp => hQ _ _ _ ?_
              rw [g4] at hp
              exact hp.from X'
            · rw [g1] at he; cases he
      | false =>
        simp only at he
        simp only [Bool.false_eq_true, if_false]
        rcases putK_ok (dst := o.dst) (v := .undef) E hs trivial (fun e => evOps P gv ex ih ops nt l e h nx) Out.fail with ⟨e2, g1, g2, g3, g4⟩ | g1
        · rw [g1] at he
          refine evOps_ok hex hih l he c w _ R g2 g3 Q fun ex a' w'' hp => hQ _ _ _ ?_
          rw [g4] at hp
          exact hp
        · rw [g1] at he; cases he

end
end Go.Ev
