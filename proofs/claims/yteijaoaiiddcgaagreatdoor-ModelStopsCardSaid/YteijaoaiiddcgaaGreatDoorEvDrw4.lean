/- A region whose order is open: any order comes to what the run by stages comes to. -/
import Derived.Test.YteijaoaiiddcgaaGreatDoorEvDrw3
import Derived.Test.YteijaoaiiddcgaaGreatDoorEvSnd3
namespace Go.Ev
open Go

theorem readsOk_ok {x : Inf} {all : List (Inf × Nat)} : ∀ {l : List Operand}, readsOk x all l = true → ∀ t, Operand.tmp t ∈ l → seesOk x t all = true
  | [], _, t, ht => by cases ht
  | y :: l, h, t, ht => by
    have hrest : readsOk x all l = true := by
      cases y <;> simp only [readsOk] at h <;> first
        | exact h
        | (split at h
           · exact h
           · cases h)
    rcases List.mem_cons.1 ht with rfl | ht
    · rw [readsOk] at h
      split at h
      · rename_i hs; exact hs
      · cases h
    · exact readsOk_ok hrest t ht

def upd (L : Nat → Bool) (i : Nat) : Nat → Bool := fun j => if j = i then true else L j

/-- What stands in a temporary, when some have been carried out. -/
noncomputable def envOf (all : List (Inf × Nat)) (V e0 : En) (L : Nat → Bool) (t : Nat) : AV :=
  match writer t all with
  | some y => if L y.1.i then getA V y.1.i else getA e0 t
  | none => getA e0 t

theorem evQ_nodep {P : Program} {o : Oper} (h : isDep o = false) (xs : List AV) (h1 h2 : Tr Obj) : evQ P o xs h1 = evQ P o xs h2 := by
  unfold isDep at h
  unfold evQ
  cases hop : o.op <;> rw [hop] at h <;> first
    | rfl
    | (cases h; done)

section
variable {σ : Nat → Value} {P : Program} {gv : Nat → Option Pos} {ex : FuncId → List AV → Option AV} {cl : Callee} {ops : Array Oper} {all : List (Inf × Nat)} {k : Nat} {e0 V : En} {H : Nat → Tr Obj × Pos} {nt : Nat} {ds : List Deferred}
variable {c0 : Cx} {h0 : Tr Obj} {nx0 : Pos} {w0 : World}

/-- Blocks that stand in memory and have not been made. -/
structure Hid (all : List (Inf × Nat)) (V : En) (H : Nat → Tr Obj × Pos) (nx0 : Pos) (L : Nat → Bool) (j : Nat) (c : Cx) : Prop where
  out : ∀ x ∈ all, isAlloc x.1.o = true → L x.1.i = false → x.1.r ≤ j → ∀ u, vidOf (getA V x.1.i) = some u →
    ¬ c.L u ∧ nx0.num ≤ u.num ∧ u.num < (H (j + 1)).2.num ∧ (H (j + 1)).1.get u = (H (x.1.r + 1)).1.get u
  apart : ∀ x ∈ all, ∀ y ∈ all, isAlloc x.1.o = true → isAlloc y.1.o = true → L x.1.i = false → L y.1.i = false → x.1.r ≤ j → y.1.r ≤ j →
    ∀ u, vidOf (getA V x.1.i) = some u → vidOf (getA V y.1.i) = some u → x.1.i = y.1.i

structure Inv (σ : Nat → Value) (P : Program) (gv : Nat → Option Pos) (all : List (Inf × Nat)) (k : Nat) (e0 V : En) (H : Nat → Tr Obj × Pos) (nt : Nat) (ds : List Deferred)
    (c0 : Cx) (h0 : Tr Obj) (nx0 : Pos) (w0 : World) (L : Nat → Bool) (j : Nat) (a : Act) (w : World) : Prop where
  le : j ≤ k
  closed : ∀ x ∈ all, L x.1.i = true → ∀ y ∈ all, inMask x.1.m y.1.i = true → L y.1.i = true
  eff : ∀ x ∈ all, isEff x.1.o = true → (L x.1.i = true ↔ x.1.r ≤ j)
  hi : ∀ x ∈ all, isEff x.1.o = false → L x.1.i = false → j ≤ x.2
  tmps : a.tmps.size = nt
  defers : a.defers = ds
  rel : ∃ c e', Rel σ P gv c (H (j + 1)).1 (H (j + 1)).2 w ∧ Ext c0 h0 nx0 w0 c (H (j + 1)).1 (H (j + 1)).2 w ∧ EnvRel σ c e' a.tmps ∧ (∀ t, getA e' t = envOf all V e0 L t) ∧ Hid all V H nx0 L j c

theorem opA_ok (p : Plan ops all k) {x : Inf × Nat} (hx : x ∈ all) {L : Nat → Bool} {j : Nat} {a : Act} {w : World} {c : Cx} {e' : En} {h : Tr Obj} {nx : Pos} (R : Rel σ P gv c h nx w) (E : EnvRel σ c e' a.tmps)
    (hE : ∀ t, getA e' t = envOf all V e0 L t) (hun : L x.1.i = false) (hpre : ∀ y ∈ all, inMask x.1.m y.1.i = true → L y.1.i = true)
    (hcl : ∀ x ∈ all, L x.1.i = true → ∀ y ∈ all, inMask x.1.m y.1.i = true → L y.1.i = true) {y : Operand} (hy : y ∈ x.1.o.op.operands.toList) {v : AV} (hv : opA gv all x.1 V e0 y = some v) :
    a.eval y = v.conc σ c ∧ v.all c.L := by
  cases y with
  | tmp t =>
    have hval : getA e' t = v := by
      rw [hE t]
      unfold envOf
      simp only [opA] at hv
      cases hw : writer t all with
      | none => rw [hw] at hv; cases hv; rfl
      | some z =>
        rw [hw] at hv; simp only at hv ⊢
        obtain ⟨hz, hzd⟩ := writer_some hw
        cases hm : inMask x.1.m z.1.i with
        | true =>
          rw [hm] at hv; cases hv
          rw [hpre z hz hm]; rfl
        | false =>
          rw [hm] at hv; cases hv
          have hs := readsOk_ok (p.reads x hx) t hy
          unfold seesOk at hs
          rw [hw] at hs; simp only [hm, Bool.or_false, Bool.or_eq_true] at hs
          have : L z.1.i = false := by
            rcases hs with hs | hs
            · rw [Nat.eq_of_beq_eq_true hs]; exact hun
            · cases hL : L z.1.i with
              | false => rfl
              | true => rw [hcl z hz hL x hx hs] at hun; cases hun
          rw [this]; rfl
    have := evA_ok E R (x := .tmp t) (v := v) (by simp only [evA]; rw [hval])
    exact this
  | const v' => exact evA_ok E R (x := .const v') hv
  | global g => exact evA_ok E R (x := .global g) hv
  | func f => exact evA_ok E R (x := .func f) hv

theorem wants_ok (p : Plan ops all k) {x : Inf × Nat} (hx : x ∈ all) {L : Nat → Bool} {a : Act} {c : Cx} {e' : En} (E : EnvRel σ c e' a.tmps)
    (hE : ∀ t, getA e' t = envOf all V e0 L t) (hpre : ∀ y ∈ all, inMask x.1.m y.1.i = true → L y.1.i = true) {b : Bool} (hb : guardA ops V x.1.o = some b) :
    Region.wanted x.1.o (yielded ops a.tmps) = b := by
  refine wantedA_ok (e := e') E ?_
  unfold guardA at hb
  unfold wantedA
  cases hg : x.1.o.guard with
  | none => rw [hg] at hb; exact hb
  | some gw =>
    obtain ⟨g, want⟩ := gw
    rw [hg] at hb; simp only at hb ⊢
    have hm := p.guard x hx g want hg
    obtain ⟨y, hy, rfl⟩ := p.full g (Nat.lt_trans (p.mask hx hm) (p.lt hx))
    rw [(p.mem y hy).2.2.1] at hb ⊢
    simp only at hb ⊢
    cases hd : y.1.o.dst with
    | none => rw [hd] at hb; cases hb
    | some d =>
      rw [hd] at hb; simp only at hb ⊢
      have : getA e' d = getA V y.1.i := by
        rw [hE d]
        unfold envOf
        cases hw : writer d all with
        | none => exact absurd hd (writer_none hw y hy)
        | some z =>
          obtain ⟨hz, hzd⟩ := writer_some hw
          have := p.alone z hz y hy d hzd hd
          subst this
          simp only
          rw [hpre z hy hm]; rfl
      rw [this]; exact hb

theorem env_put (p : Plan ops all k) {x : Inf × Nat} (hx : x ∈ all) {L : Nat → Bool} {a : Act} {c : Cx} {e' : En} (E : EnvRel σ c e' a.tmps) (hs : a.tmps.size = nt)
    (hE : ∀ t, getA e' t = envOf all V e0 L t) (hnt : ∀ d, x.1.o.dst = some d → d < nt) (hv : (getA V x.1.i).all c.L) :
    ∃ e'', EnvRel σ c e'' (a.put x.1.o.dst ((getA V x.1.i).conc σ c)).tmps ∧ (a.put x.1.o.dst ((getA V x.1.i).conc σ c)).tmps.size = nt ∧ (a.put x.1.o.dst ((getA V x.1.i).conc σ c)).defers = a.defers ∧
      ∀ t, getA e'' t = envOf all V e0 (upd L x.1.i) t := by
  have hother : ∀ t, x.1.o.dst ≠ some t → envOf all V e0 (upd L x.1.i) t = envOf all V e0 L t := by
    intro t ht
    unfold envOf
    cases hw : writer t all with
    | none => rfl
    | some z =>
      obtain ⟨hz, hzd⟩ := writer_some hw
      have : z.1.i ≠ x.1.i := fun e => ht (by rw [← p.uniq z hz x hx e]; exact hzd)
      simp only [upd, if_neg this]
  cases hd : x.1.o.dst with
  | none =>
    refine ⟨e', E, hs, rfl, fun t => ?_⟩
    rw [hother t (by rw [hd]; intro q; cases q)]
    exact hE t
  | some d =>
    have hdl := hnt d hd
    refine ⟨En.put d (getA V x.1.i) e', E.put (by rw [hs]; exact hdl) hv, by simp [Act.put, hs], rfl, fun t => ?_⟩
    rw [getA_set]
    by_cases ht : t = d
    · subst ht
      rw [if_pos rfl]
      unfold envOf
      cases hw : writer t all with
      | none => exact absurd hd (writer_none hw x hx)
      | some z =>
        obtain ⟨hz, hzd⟩ := writer_some hw
        have := p.alone z hz x hx t hzd hd
        subst this
        simp [upd]
    · rw [if_neg ht, hother t (by rw [hd]; intro q; cases q; exact ht rfl)]
      exact hE t

theorem Inv.hi_up (p : Plan ops all k) {L : Nat → Bool} {j : Nat} {a : Act} {w : World} (I : Inv σ P gv all k e0 V H nt ds c0 h0 nx0 w0 L j a w) {x : Inf × Nat} (hx : x ∈ all) (he : isEff x.1.o = true) (hr : x.1.r = j + 1)
    (hpre : ∀ y ∈ all, inMask x.1.m y.1.i = true → L y.1.i = true) : ∀ (n : Nat) (z : Inf × Nat), z ∈ all → ops.size ≤ z.1.i + n → isEff z.1.o = false → L z.1.i = false → j + 1 ≤ z.2 := by
  intro n
  induction n with
  | zero => intro z hz hn; have := p.lt hz; omega
  | succ n ihn =>
    intro z hz hn hze hL
    have h1 := I.hi z hz hze hL
    rcases p.bnd.att z hz hze with h2 | ⟨y, hy, h2, h3⟩
    · have := (p.mem x hx).2.2.2; omega
    · cases hye : isEff y.1.o with
      | true =>
        have h4 := p.bnd.eff y hy hye
        have h5 := p.eff y hy hye
        rcases Nat.lt_or_ge j z.2 with h6 | h6
        · exact h6
        · have : y = x := p.one y hy x hx hye he (by omega)
          subst this
          rw [hpre z hz h2] at hL; cases hL
      | false =>
        have hLy : L y.1.i = false := by
          cases hh : L y.1.i with
          | false => rfl
          | true => rw [I.closed y hy hh z hz h2] at hL; cases hL
        have := ihn y hy (by have := p.mask hy h2; omega) hye hLy
        omega

theorem closed_upd (p : Plan ops all k) {x : Inf × Nat} (hx : x ∈ all) {L : Nat → Bool} (hpre : ∀ y ∈ all, inMask x.1.m y.1.i = true → L y.1.i = true)
    (hcl : ∀ x ∈ all, L x.1.i = true → ∀ y ∈ all, inMask x.1.m y.1.i = true → L y.1.i = true) :
    ∀ z ∈ all, upd L x.1.i z.1.i = true → ∀ y ∈ all, inMask z.1.m y.1.i = true → upd L x.1.i y.1.i = true := by
  intro z hz hzL y hy hm
  unfold upd at *
  by_cases hyx : y.1.i = x.1.i
  · rw [if_pos hyx]
  · rw [if_neg hyx]
    by_cases hzx : z.1.i = x.1.i
    · have := p.uniq z hz x hx hzx
      subst this
      exact hpre y hy hm
    · rw [if_neg hzx] at hzL
      exact hcl z hz hzL y hy hm

theorem upd_false {L : Nat → Bool} {i j : Nat} (h : upd L i j = false) : j ≠ i ∧ L j = false := by
  unfold upd at h
  by_cases e : j = i
  · rw [if_pos e] at h; cases h
  · rw [if_neg e] at h; exact ⟨e, h⟩

/-- An operation that is no effect has been carried out. -/
theorem Inv.still (p : Plan ops all k) {L : Nat → Bool} {j : Nat} {a : Act} {w : World} (I : Inv σ P gv all k e0 V H nt ds c0 h0 nx0 w0 L j a w) {x : Inf × Nat} (hx : x ∈ all) (he : isEff x.1.o = false)
    (hpre : ∀ y ∈ all, inMask x.1.m y.1.i = true → L y.1.i = true) (hnt : ∀ d, x.1.o.dst = some d → d < nt) {c c' : Cx} {e' : En} {w' : World}
    (E : EnvRel σ c e' a.tmps) (hE : ∀ t, getA e' t = envOf all V e0 L t) (Hd : Hid all V H nx0 L j c)
    (R' : Rel σ P gv c' (H (j + 1)).1 (H (j + 1)).2 w') (X' : Ext c0 h0 nx0 w0 c' (H (j + 1)).1 (H (j + 1)).2 w') (hag : Cx.agree c.L c c') (hsub : ∀ b, c.L b → c'.L b) (hv : (getA V x.1.i).all c'.L)
    (hout : ∀ z ∈ all, z.1.i ≠ x.1.i → isAlloc z.1.o = true → L z.1.i = false → z.1.r ≤ j → ∀ u, vidOf (getA V z.1.i) = some u → ¬ c'.L u) :
    Inv σ P gv all k e0 V H nt ds c0 h0 nx0 w0 (upd L x.1.i) j (a.put x.1.o.dst ((getA V x.1.i).conc σ c')) w' := by
  obtain ⟨e'', g1, g2, g3, g4⟩ := env_put p hx (E.ext hag hsub) I.tmps hE hnt hv
  refine ⟨I.le, closed_upd p hx hpre I.closed, ?_, ?_, g2, g3.trans I.defers, c', e'', R', X', g1, g4, ?_, ?_⟩
  · intro z hz hze
    have : z.1.i ≠ x.1.i := fun e => by
      rw [p.uniq z hz x hx e, he] at hze; cases hze
    simp only [upd, if_neg this]
    exact I.eff z hz hze
  · intro z hz hze hL
    exact I.hi z hz hze (upd_false hL).2
  · intro z hz hza hL hr u hu
    obtain ⟨h1, h2⟩ := upd_false hL
    obtain ⟨_, h3⟩ := Hd.out z hz hza h2 hr u hu
    exact ⟨hout z hz h1 hza h2 hr u hu, h3⟩
  · intro y hy z hz hya hza hyL hzL hyr hzr
    exact Hd.apart y hy z hz hya hza (upd_false hyL).2 (upd_false hzL).2 hyr hzr

/-- An effect has been carried out. -/
theorem Inv.did (p : Plan ops all k) {L : Nat → Bool} {j : Nat} {a : Act} {w : World} (I : Inv σ P gv all k e0 V H nt ds c0 h0 nx0 w0 L j a w) {x : Inf × Nat} (hx : x ∈ all) (he : isEff x.1.o = true) (hr : x.1.r = j + 1)
    (hpre : ∀ y ∈ all, inMask x.1.m y.1.i = true → L y.1.i = true) (hnt : ∀ d, x.1.o.dst = some d → d < nt) {one : Inf → En → Tr Obj → Pos → Rs} (hstill : ∀ x, isEff x.o = false → Still one x) {l : List Inf} {h1 : Tr Obj} {n1 : Pos}
    (hl : stageOf (j + 1) all = x.1 :: l) (hle : ∀ y ∈ l, isEff y.o = false) (S : Stills one V l h1 n1 (H (j + 1 + 1)).1 (H (j + 1 + 1)).2) {c c' : Cx} {e' : En} {w' : World}
    (E : EnvRel σ c e' a.tmps) (hE : ∀ t, getA e' t = envOf all V e0 L t) (Hd : Hid all V H nx0 L j c) (X : Ext c0 h0 nx0 w0 c (H (j + 1)).1 (H (j + 1)).2 w)
    (R' : Rel σ P gv c' h1 n1 w') (X' : Ext c (H (j + 1)).1 (H (j + 1)).2 w c' h1 n1 w') (hv : (getA V x.1.i).all c'.L) :
    Inv σ P gv all k e0 V H nt ds c0 h0 nx0 w0 (upd L x.1.i) (j + 1) (a.put x.1.o.dst ((getA V x.1.i).conc σ c')) w' := by
  obtain ⟨e'', g1, g2, g3, g4⟩ := env_put p hx (E.ext X'.agree X'.sub) I.tmps hE hnt hv
  have hnew : ∀ z ∈ all, isAlloc z.1.o = true → z.1.i ≠ x.1.i → z.1.r = j + 1 → z.1 ∈ l := by
    intro z hz _ hne hzr
    have : z.1 ∈ stageOf (j + 1) all := mem_stage.2 ⟨⟨z.2, hz⟩, hzr⟩
    rw [hl] at this
    rcases List.mem_cons.1 this with h | h
    · exact absurd (by rw [h]) hne
    · exact h
  have hrange : ∀ z ∈ all, isAlloc z.1.o = true → z.1.i ≠ x.1.i → z.1.r = j + 1 → ∀ u, vidOf (getA V z.1.i) = some u → n1.num ≤ u.num ∧ u.num < (H (j + 1 + 1)).2.num :=
    fun z hz hza hne hzr u hu => S.range (fun y hy => hstill y (hle y hy)) (hnew z hz hza hne hzr) hza hu
  have hg1 := X'.grow
  have hg0 := X.grow
  have hg2 := S.grow.le
  refine ⟨?_, closed_upd p hx hpre I.closed, ?_, ?_, g2, g3.trans I.defers, c', e'', R'.grown S.grow, (X.trans X').grown S.grow, g1, g4, ?_, ?_⟩
  · have := (p.mem x hx).2.2.2; omega
  · intro z hz hze
    by_cases hzx : z.1.i = x.1.i
    · have := p.uniq z hz x hx hzx
      subst this
      simp [upd, hr]
    · simp only [upd, if_neg hzx]
      rw [I.eff z hz hze]
      constructor
      · intro h; omega
      · intro h
        rcases Nat.lt_or_ge j z.1.r with h2 | h2
        · have := p.one z hz x hx hze he (by omega)
          exact absurd (by rw [this]) hzx
        · exact h2
  · intro z hz hze hL
    exact I.hi_up p hx he hr hpre ops.size z hz (by omega) hze (upd_false hL).2
  · intro z hz hza hL hzr u hu
    obtain ⟨h3, h4⟩ := upd_false hL
    rcases Nat.lt_or_ge j z.1.r with h5 | h5
    · have h6 : z.1.r = j + 1 := by omega
      obtain ⟨q1, q2⟩ := hrange z hz hza h3 h6 u hu
      refine ⟨fun hc => by have := R'.lt u hc; omega, by omega, q2, by rw [h6]⟩
    · obtain ⟨q1, q2, q3, q4⟩ := Hd.out z hz hza h4 h5 u hu
      refine ⟨fun hc => by have := X'.fresh u hc q1; omega, q2, by omega, ?_⟩
      rw [S.grow.same u (by omega), X'.frame u q3 q1, q4]
  · intro y hy z hz hya hza hyL hzL hyr hzr u hu1 hu2
    obtain ⟨y1, y2⟩ := upd_false hyL
    obtain ⟨z1, z2⟩ := upd_false hzL
    rcases Nat.lt_or_ge j y.1.r with h5 | h5 <;> rcases Nat.lt_or_ge j z.1.r with h6 | h6
    · exact S.apart y.1 (hnew y hy hya y1 (by omega)) z.1 (hnew z hz hza z1 (by omega)) hya hza u hu1 hu2
    · have q1 := (hrange y hy hya y1 (by omega) u hu1).1
      have q2 := (Hd.out z hz hza z2 h6 u hu2).2.2.1
      omega
    · have q1 := (hrange z hz hza z1 (by omega) u hu2).1
      have q2 := (Hd.out y hy hya y2 h5 u hu1).2.2.1
      omega
    · exact Hd.apart y hy z hz hya hza y2 z2 h5 h6 u hu1 hu2

theorem wp_next {o : Oper} {a : Act} {w w' : World} {n : Next} {v : Value} {K : Act → World → Prop} {Q : Exit → Act → World → Prop} (h1 : (execOp a.eval o).run P w = .ok n w') (h2 : NextIs n v) (hK : K (a.put o.dst v) w') :
    o.wp P a w K Q := by
  unfold Oper.wp
  rw [h1]
  rcases h2 with rfl | ⟨rfl, h2⟩
  · exact hK
  · rw [h2] at hK; exact hK

theorem Inv.step (p : Plan ops all k) (hm : P.follows .mixedOrders = true) (hex : ExOk σ P ex) (hcl : CallOk σ P gv cl)
    (hst : ∀ j, j ≤ k → StageOk (evOne P gv ex cl ops all e0) all V H j) (hsd : ∀ x ∈ all, steadyOp P gv ops all e0 V ((List.range' 0 (k + 1)).map fun i => H (i + 1)).reverse (k + 1) x = true)
    (hnt : ∀ x ∈ all, ∀ d, x.1.o.dst = some d → d < nt) (hc0 : ∀ b, c0.L b → b.num < nx0.num) {L : Nat → Bool} {j : Nat} {a : Act} {w : World} (I : Inv σ P gv all k e0 V H nt ds c0 h0 nx0 w0 L j a w) {x : Inf × Nat} (hx : x ∈ all)
    (hun : L x.1.i = false) (hpre : ∀ y ∈ all, inMask x.1.m y.1.i = true → L y.1.i = true) {Q : Exit → Act → World → Prop} :
    wpOp P ops Q x.1.i (fun a w => ∃ j', Inv σ P gv all k e0 V H nt ds c0 h0 nx0 w0 (upd L x.1.i) j' a w) a w := by
  obtain ⟨c, e', R, X, E, hE, Hd⟩ := I.rel
  have hstill : ∀ x, isEff x.o = false → Still (evOne P gv ex cl ops all e0) x := fun x hx => evOne_still hx
  unfold wpOp
  rw [(p.mem x hx).2.2.1]
  simp only
  -- a chain of what stands ahead
  have key : ∀ (n : Nat) (z : Inf × Nat), z ∈ all → z.1.i ≤ n → L z.1.i = true → z.1.r ≤ j := by
    intro n
    induction n with
    | zero =>
      intro z hz hn hL
      cases hze : isEff z.1.o with
      | true => exact (I.eff z hz hze).1 hL
      | false =>
        rcases p.zero z hz hze with h | ⟨y, hy, h1, h2⟩
        · omega
        · have := p.mask hz h1; omega
    | succ n ihn =>
      intro z hz hn hL
      cases hze : isEff z.1.o with
      | true => exact (I.eff z hz hze).1 hL
      | false =>
        rcases p.zero z hz hze with h | ⟨y, hy, h1, h2⟩
        · omega
        · rw [← h2]
          exact ihn y hy (by have := p.mask hz h1; omega) (I.closed z hz hL y hy h1)
  cases he : isEff x.1.o with
  | true =>
    have hr : x.1.r = j + 1 := by
      have h1 : ¬ x.1.r ≤ j := fun h => by rw [(I.eff x hx he).2 h] at hun; cases hun
      rcases Nat.lt_or_ge x.1.r 2 with h2 | h2
      · omega
      · obtain ⟨y, hy, h4, h5⟩ := p.chain x hx he h2
        have := key y.1.i y hy (Nat.le_refl _) (hpre y hy h4)
        omega
    have hk : j + 1 ≤ k := by have := (p.mem x hx).2.2.2; omega
    rcases hst (j + 1) hk with ⟨h1, _⟩ | ⟨_, x', l, h1, n1, Vt, g1, g2, g3, g4, g5, g6⟩
    · omega
    · have hxx : x.1 = x' := by
        have : x.1 ∈ stageOf (j + 1) all := mem_stage.2 ⟨⟨x.2, hx⟩, hr⟩
        rw [g1] at this
        rcases List.mem_cons.1 this with h | h
        · exact h
        · have := g3 _ h; rw [he] at this; cases this
      subst hxx
      rw [evOne_congr p hx g5] at g4
      unfold evOne at g4
      have hdid : ∀ c' w', Rel σ P gv c' h1 n1 w' → Ext c (H (j + 1)).1 (H (j + 1)).2 w c' h1 n1 w' → (getA V x.1.i).all c'.L →
          ∃ j', Inv σ P gv all k e0 V H nt ds c0 h0 nx0 w0 (upd L x.1.i) j' (a.put x.1.o.dst ((getA V x.1.i).conc σ c')) w' :=
        fun c' w' R' X' hv => ⟨j + 1, I.did p hx he hr hpre (hnt x hx) hstill g1 g3 g6 E hE Hd X R' X' hv⟩
      split at g4
      · rename_i hga
        rw [wants_ok p hx E hE hpre hga]
        simp only [if_true]
        left
        split at g4
        · rename_i xs hxs
          rw [he, Bool.true_or] at g4; simp only at g4
          exact evO_ok hex hcl g4 (evAs_vals (fun y hy v hv => opA_ok p hx R E hE hun hpre I.closed (j := j) hy hv) hxs) R hdid
        · cases g4
      · rename_i hga
        rw [wants_ok p hx E hE hpre hga]
        simp only [Bool.false_eq_true, if_false]
        simp only [Rs.val.injEq] at g4
        obtain ⟨q1, rfl, rfl⟩ := g4
        have := hdid c w R (Ext.refl ..) (by rw [← q1]; trivial)
        rw [← q1] at this
        exact this
      · cases g4
  | false =>
    have hr : x.1.r ≤ j := by
      rcases p.zero x hx he with h | ⟨y, hy, h1, h2⟩
      · omega
      · rw [← h2]
        exact key y.1.i y hy (Nat.le_refl _) (hpre y hy h1)
    have hhi := I.hi x hx he hun
    have hfact : ∃ ht nt' ht1 nt1, evOne P gv ex cl ops all e0 x.1 V ht nt' = .val (getA V x.1.i) ht1 nt1 ∧ Grow ht1 nt1 (H (x.1.r + 1)).1 (H (x.1.r + 1)).2 := by
      have hmem : x.1 ∈ stageOf x.1.r all := mem_stage.2 ⟨⟨x.2, hx⟩, rfl⟩
      rcases hst x.1.r (Nat.le_trans hr I.le) with ⟨h1, S⟩ | ⟨_, x', l, h1, n1, Vt, g1, g2, g3, g4, g5, S⟩
      · rw [h1] at hmem
        obtain ⟨Vt, ht, nt', ht1, nt1, q1, q2, q3, q4⟩ := S.each x.1 hmem
        rw [evOne_congr p hx q2] at q1
        exact ⟨ht, nt', ht1, nt1, q1, by rw [h1]; exact q4⟩
      · rw [g1] at hmem
        rcases List.mem_cons.1 hmem with h | h
        · rw [← h, he] at g2; cases g2
        · obtain ⟨Vt, ht, nt', ht1, nt1, q1, q2, q3, q4⟩ := S.each x.1 h
          rw [evOne_congr p hx q2] at q1
          exact ⟨ht, nt', ht1, nt1, q1, q4⟩
    obtain ⟨ht, nt', ht1, nt1, hone, hgr⟩ := hfact
    have hsame : ∀ {v : AV}, getA V x.1.i = v → v.all c.L → ∃ j', Inv σ P gv all k e0 V H nt ds c0 h0 nx0 w0 (upd L x.1.i) j' (a.put x.1.o.dst (v.conc σ c)) w := by
      rintro v rfl hv
      exact ⟨j, I.still p hx he hpre (hnt x hx) E hE Hd R X (fun _ _ => ⟨rfl, rfl⟩) (fun _ h => h) hv fun z hz _ hza hzL hzr u hu => (Hd.out z hz hza hzL hzr u hu).1⟩
    have hone0 := hone
    unfold evOne at hone
    split at hone
    · rename_i hga
      rw [wants_ok p hx E hE hpre hga]
      simp only [if_true]
      left
      split at hone
      · rename_i xs hxs
        have hvals := evAs_vals (fun y hy v hv => opA_ok p hx R E hE hun hpre I.closed (j := j) hy hv) hxs
        rw [he, Bool.false_or] at hone
        cases ha : isAlloc x.1.o with
        | true =>
          rw [ha] at hone; simp only at hone
          rw [evO_alloc ha] at hone
          obtain ⟨ob, mk, hmk, hs⟩ := evS_alloc ha hone
          rw [hs] at hone
          simp only [Rs.val.injEq] at hone
          obtain ⟨q1, q2, q3⟩ := hone
          have hu : vidOf (getA V x.1.i) = some nt' := by rw [← q1]; exact hmk.vid _
          obtain ⟨d1, d2, d3, d4⟩ := Hd.out x hx ha hun hr nt' hu
          have hg : (H (j + 1)).1.get nt' = some ob := by
            rw [d4, hgr.same nt' (by rw [← q3, Pos.num_succ]; omega), ← q2, Tr.get_set, if_pos rfl]
          obtain ⟨n, c2, w', r1, r2, r3, r4, r5, r6, r7⟩ := alloc_at ha hvals R hmk hs d1 d3 hg X d2 (fun b hb e => by have := hc0 b hb; rw [e] at this; omega)
          rw [q1] at r2 r7
          refine wp_next r1 r2 ⟨j, I.still p hx he hpre (hnt x hx) E hE Hd r3 r4 r5 (fun b hb => (r6 b).2 (.inr hb)) r7 ?_⟩
          intro z hz hne hza hzL hzr u' hu' hcu
          rcases (r6 u').1 hcu with h | h
          · subst h
            exact hne (Hd.apart z hz x hx hza ha hzL hun hzr hr _ hu' hu)
          · exact (Hd.out z hz hza hzL hzr u' hu').1 h
        | false =>
          rw [ha] at hone; simp only at hone
          have hdep := hsd x hx
          unfold steadyOp at hdep
          rw [he] at hdep
          simp only [Bool.not_false, Bool.and_true] at hdep
          cases hd : isDep x.1.o with
          | true =>
            rw [hd, hga] at hdep; simp only at hdep
            rw [hxs] at hdep; simp only at hdep
            have hval := steady_ok hdep j hr hhi (by have := I.le; omega)
            split at hone
            · rename_i cl hop
              simp only [hop] at hval
              obtain ⟨r1, r2⟩ := evClQ_ok hop hvals hval R
              exact wp_next r1 (.inl rfl) (hsame rfl r2)
            · rename_i hop
              have hval' : evQ P x.1.o xs (H (j + 1)).1 = some (getA V x.1.i) := by
                revert hval
                cases hop2 : x.1.o.op <;> first
                  | (intro hval; exact hval)
                  | (exact absurd hop2 (hop _))
              obtain ⟨r1, r2⟩ := evQ_ok hvals hval' R
              exact wp_next r1 (.inl rfl) (hsame rfl r2)
          | false =>
            split at hone
            · rename_i cl hop
              unfold isDep at hd; rw [hop] at hd; cases hd
            · have hval' : evQ P x.1.o xs (H (j + 1)).1 = some (getA V x.1.i) := by
                rw [evQ_nodep hd xs _ ht]
                cases hq : evQ P x.1.o xs ht with
                | none => rw [hq] at hone; cases hone
                | some v => rw [hq] at hone; simp only [Rs.pure, Rs.val.injEq] at hone; rw [hone.1]
              obtain ⟨r1, r2⟩ := evQ_ok hvals hval' R
              exact wp_next r1 (.inl rfl) (hsame rfl r2)
      · cases hone
    · rename_i hga
      rw [wants_ok p hx E hE hpre hga]
      simp only [Bool.false_eq_true, if_false]
      simp only [Rs.val.injEq] at hone
      exact hsame hone.1.symm (by trivial)
    · cases hone

/-- How many have not been carried out. -/
def left (L : Nat → Bool) (n : Nat) : Nat := ((List.range n).filter fun i => !L i).length

theorem filter_lt {p q : Nat → Bool} {i : Nat} (hp : p i = true) (hq : q i = false) (hpq : ∀ j, q j = true → p j = true) : ∀ {l : List Nat}, i ∈ l → (l.filter q).length < (l.filter p).length
  | [], h => by cases h
  | x :: l, h => by
    have hle : ∀ l : List Nat, (l.filter q).length ≤ (l.filter p).length := by
      intro l
      induction l with
      | nil => exact Nat.le_refl _
      | cons y l ih =>
        rw [List.filter_cons, List.filter_cons]
        cases hqy : q y with
        | true => rw [hpq y hqy]; simp only [if_true, List.length_cons]; omega
        | false =>
          simp only [Bool.false_eq_true, if_false]
          split
          · rw [List.length_cons]; omega
          · exact ih
    rcases List.mem_cons.1 h with rfl | h
    · rw [List.filter_cons, List.filter_cons, hp, hq]
      have := hle l
      simp only [if_true, Bool.false_eq_true, if_false, List.length_cons]; omega
    · have ih := filter_lt hp hq hpq h
      rw [List.filter_cons, List.filter_cons]
      cases hqy : q x with
      | true => rw [hpq x hqy]; simp only [if_true, List.length_cons]; omega
      | false =>
        simp only [Bool.false_eq_true, if_false]
        split
        · rw [List.length_cons]; omega
        · exact ih

theorem left_upd {L : Nat → Bool} {n i : Nat} (hi : i < n) (hL : L i = false) : left (upd L i) n < left L n :=
  filter_lt (by rw [hL]; rfl) (by simp [upd]) (fun j hj => by
    simp only [Bool.not_eq_true'] at hj ⊢
    exact (upd_false hj).2) (List.mem_range.2 hi)

theorem left_zero {L : Nat → Bool} {n : Nat} (h : left L n = 0) : ∀ i, i < n → L i = true := by
  intro i hi
  cases hL : L i with
  | true => rfl
  | false => have := left_upd hi hL; omega

theorem inMask_after {o : Oper} {i : Nat} : inMask (maskOf o) i = true ↔ ∃ e ∈ o.after, Region.binds .any e = true ∧ e.on = i := by
  rw [inMask_maskOf, List.any_eq_true]
  constructor
  · rintro ⟨e, h1, h2⟩
    simp only [Bool.and_eq_true, beq_iff_eq] at h2
    exact ⟨e, by simpa using h1, h2.1, h2.2⟩
  · rintro ⟨e, h1, h2, h3⟩
    exact ⟨e, by simpa using h1, by simp [h2, h3]⟩

theorem Inv.any (p : Plan ops all k) (hm : P.follows .mixedOrders = true) (hex : ExOk σ P ex) (hcl : CallOk σ P gv cl)
    (hst : ∀ j, j ≤ k → StageOk (evOne P gv ex cl ops all e0) all V H j) (hsd : ∀ x ∈ all, steadyOp P gv ops all e0 V ((List.range' 0 (k + 1)).map fun i => H (i + 1)).reverse (k + 1) x = true)
    (hnt : ∀ x ∈ all, ∀ d, x.1.o.dst = some d → d < nt) (hc0 : ∀ b, c0.L b → b.num < nx0.num) {Q : Exit → Act → World → Prop}
    (hQ : ∀ L j a w, Inv σ P gv all k e0 V H nt ds c0 h0 nx0 w0 L j a w → (∀ i, i < ops.size → L i = true) → Q .normal a w) :
    ∀ (fuel : Nat) (listed : Array Bool) (j : Nat) (a : Act) (w : World), listed.size = ops.size → left (fun i => listed.getD i false) ops.size ≤ fuel →
      Inv σ P gv all k e0 V H nt ds c0 h0 nx0 w0 (fun i => listed.getD i false) j a w → wpAny P .any ops Q fuel listed a w := by
  have hget : ∀ (listed : Array Bool) i, i < listed.size → listed.getD i true = listed.getD i false := by
    intro listed i hi
    simp [hi]
  have hset : ∀ (listed : Array Bool) i, i < listed.size → (fun j => (listed.setIfInBounds i true).getD j false) = upd (fun j => listed.getD j false) i := by
    intro listed i hi
    funext j
    unfold upd
    by_cases hji : j = i
    · subst hji; simp [hi]
    · rw [if_neg hji, getD_set_ne false (Ne.symm hji)]
  have hdone : ∀ (listed : Array Bool), listed.size = ops.size → Region.ready .any ops listed = [] → ∀ i, i < ops.size → listed.getD i false = true := by
    intro listed hsz hr
    have key : ∀ n i, i ≤ n → i < ops.size → listed.getD i false = true := by
      intro n
      induction n with
      | zero =>
        intro i hi hin
        cases hL : listed.getD i false with
        | true => rfl
        | false =>
          obtain ⟨x, hx, hxi⟩ := p.full i hin
          have : i ∈ Region.ready .any ops listed := mem_ready.2 ⟨by rw [hget _ _ (by omega)]; exact hL, x.1.o, by rw [← hxi]; exact (p.mem x hx).2.2.1, fun e he hb => by
            have := inMask_after.2 ⟨e, he, hb, rfl⟩
            rw [← (p.mem x hx).1] at this
            have := p.mask hx this
            omega⟩
          rw [hr] at this; cases this
      | succ n ihn =>
        intro i hi hin
        cases hL : listed.getD i false with
        | true => rfl
        | false =>
          obtain ⟨x, hx, hxi⟩ := p.full i hin
          have : i ∈ Region.ready .any ops listed := mem_ready.2 ⟨by rw [hget _ _ (by omega)]; exact hL, x.1.o, by rw [← hxi]; exact (p.mem x hx).2.2.1, fun e he hb => by
            have := inMask_after.2 ⟨e, he, hb, rfl⟩
            rw [← (p.mem x hx).1] at this
            have := p.mask hx this
            exact ihn e.on (by omega) (by omega)⟩
          rw [hr] at this; cases this
    exact fun i hi => key i i (Nat.le_refl _) hi
  intro fuel
  induction fuel with
  | zero =>
    intro listed j a w hsz hleft I
    have hall := left_zero (Nat.le_zero.1 hleft)
    refine ⟨?_, hQ _ j a w I hall⟩
    cases hr : Region.ready .any ops listed with
    | nil => rfl
    | cons i l =>
      have hi : i ∈ Region.ready .any ops listed := by rw [hr]; exact List.mem_cons_self
      obtain ⟨h1, o, h2, _⟩ := mem_ready.1 hi
      have hlt := (Array.getElem?_eq_some_iff.1 h2).1
      rw [hget _ _ (by omega)] at h1
      have := hall i hlt
      rw [h1] at this; cases this
  | succ fuel ihf =>
    intro listed j a w hsz hleft I
    refine ⟨fun hr => hQ _ j a w I (hdone listed hsz hr), fun i hi => ?_⟩
    obtain ⟨h1, o, h2, h3⟩ := mem_ready.1 hi
    have hlt := (Array.getElem?_eq_some_iff.1 h2).1
    rw [hget _ _ (by omega)] at h1
    obtain ⟨x, hx, rfl⟩ := p.full i hlt
    have ho : o = x.1.o := by
      have := (p.mem x hx).2.2.1
      rw [h2] at this; cases this; rfl
    subst ho
    have hstep := I.step p hm hex hcl hst hsd hnt hc0 hx h1 (fun y hy hmk => by
      rw [(p.mem x hx).1] at hmk
      obtain ⟨e, he, hb, hon⟩ := inMask_after.1 hmk
      have := h3 e he hb
      rw [hon] at this; exact this) (Q := Q)
    refine wpOp_mono ?_ hstep
    rintro a' w' ⟨j', I'⟩
    rw [← hset listed x.1.i (by omega)] at I'
    refine ihf _ j' a' w' (by simp [hsz]) ?_ I'
    rw [hset listed x.1.i (by omega)]
    have := left_upd (L := fun j => listed.getD j false) hlt h1
    omega

theorem drawOk (hm : P.follows .mixedOrders = true) (hex : ExOk σ P ex) (hcl : CallOk σ P gv cl) : DrawOk σ P gv ex cl := by
  intro id ops nt e h nx x e' h' nx' he c w a R E hs
  unfold evDraw at he
  cases hp : plan ops with
  | none => rw [hp] at he; cases he
  | some as =>
    obtain ⟨all, stages⟩ := as
    rw [hp] at he; simp only at he
    obtain ⟨k, p, hstages⟩ := plan_ok hp
    have hlen : stages.length = k + 1 := by rw [hstages]; simp
    cases hst : evStages (evOne P gv ex cl ops all e) stages .new h nx [] with
    | fail => rw [hst] at he; cases he
    | ok V h1 n1 hs1 =>
      rw [hst] at he; simp only at he
      cases hsd : steadyAll P gv ops all e V hs1 stages.length all with
      | false => rw [hsd] at he; cases he
      | true =>
        rw [hsd] at he; simp only at he
        obtain ⟨q1, q2, q3, q4, q5, q6⟩ := putAll_ok he p.dsts
        subst q1 q2 q3
        have hstill : ∀ x, isEff x.o = false → Still (evOne P gv ex cl ops all e) x := fun x hx => evOne_still hx
        rw [hstages, List.range_eq_range'] at hst
        obtain ⟨H, g1, g2, g3, _, g5⟩ := evStages_ok p hstill (k + 1) 0 (by omega) hst
        rw [Nat.zero_add] at g2
        rw [List.append_nil] at g3
        have hsd' := steadyAll_ok hsd
        rw [hlen, g3] at hsd'
        have hst' : ∀ j, j ≤ k → StageOk (evOne P gv ex cl ops all e) all V H j := fun j hj => g5 j (by omega) (by omega)
        obtain ⟨Rd, Xd⟩ := R.drew
        refine wp_region_any hm ?_
        have h00 : Stills (evOne P gv ex cl ops all e) V (stageOf 0 all) h nx (H 1).1 (H 1).2 := by
          rcases hst' 0 (Nat.zero_le _) with ⟨_, S⟩ | ⟨h1, _⟩
          · rw [g1] at S; exact S
          · omega
        refine Inv.any (σ := σ) (gv := gv) (V := V) (H := H) (nt := nt) (ds := a.defers) (c0 := c) (h0 := h) (nx0 := nx) (w0 := w) p hm hex hcl hst' hsd' q4 R.lt ?_ ops.size (Array.replicate ops.size false) 0 a w.drew (by simp) ?_ ?_
        · intro L j a' w' I hall
          obtain ⟨c', e'', R', X', E', hE', Hd'⟩ := I.rel
          have hj : j = k := by
            have := I.le
            rcases Nat.lt_or_ge j k with hjk | hjk
            · obtain ⟨y, hy, hye, hyr⟩ := p.ranks k (by omega) (Nat.le_refl _)
              have := (I.eff y hy hye).1 (hall _ (p.lt hy))
              omega
            · omega
          subst hj
          rw [g2] at R' X'
          refine ⟨rfl, c', R', X', ?_, I.tmps, I.defers⟩
          have hval : ∀ t, getA e' t = getA e'' t := by
            intro t
            rw [q5 t, hE' t]
            unfold envOf
            cases hw : writer t all with
            | none => rfl
            | some y => simp only; rw [hall _ (p.lt (writer_some hw).1)]; rfl
          refine ⟨fun i hi => by rw [hval i]; exact E'.get i hi, fun i hi => ?_, fun i => by rw [hval i]; exact E'.all i⟩
          rw [I.tmps] at hi
          rw [q6 i hi]
          exact E.out i (by omega)
        · unfold left
          refine Nat.le_trans (List.length_filter_le _ _) (by simp)
        · have hf : ∀ i, (Array.replicate ops.size false).getD i false = false := by
            intro i
            by_cases hi : i < ops.size
            · simp [hi]
            · simp [hi]
          simp only [hf]
          refine ⟨Nat.zero_le _, fun x hx hL => (by cases hL), fun x hx hxe => ?_, fun x _ _ _ => Nat.zero_le _, hs, rfl, c, e, Rd.grown h00.grow, Xd.grown h00.grow, E, fun t => ?_, ?_, ?_⟩
          · constructor
            · intro q; cases q
            · intro q; have := p.eff x hx hxe; omega
          · unfold envOf
            cases writer t all <;> rfl
          · intro x hx hxa _ hxr u hu
            have hmem : x.1 ∈ stageOf 0 all := mem_stage.2 ⟨⟨x.2, hx⟩, by omega⟩
            obtain ⟨r1, r2⟩ := h00.range (fun y hy => hstill y (p.still y hy)) hmem hxa hu
            exact ⟨fun hc => by have := R.lt u hc; omega, r1, r2, by rw [show x.1.r = 0 by omega]⟩
          · intro x hx y hy hxa hya _ _ hxr hyr u hu1 hu2
            exact h00.apart x.1 (mem_stage.2 ⟨⟨x.2, hx⟩, by omega⟩) y.1 (mem_stage.2 ⟨⟨y.2, hy⟩, by omega⟩) hxa hya u hu1 hu2

end
end Go.Ev
