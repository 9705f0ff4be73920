/- A region whose order is open: the run by stages. -/
import Derived.Test.YteijaoaiiddcgaaGreatDoorEvDrw1
namespace Go.Ev
open Go

mutual
theorem AV.eq_ok : ∀ (u v : AV), AV.eq u v = true → u = v
  | .undef, v, h => by cases v <;> simp_all [AV.eq]
  | .bool _, v, h => by cases v <;> simp_all [AV.eq]
  | .int _ _, v, h => by cases v <;> simp_all [AV.eq]
  | .str _ _, v, h => by cases v <;> simp_all [AV.eq]
  | .nilp, v, h => by cases v <;> simp_all [AV.eq]
  | .ptr b _, v, h => by
    cases v <;> simp [AV.eq] at h
    rw [(Pos.eq_iff _ _).1 h.1, h.2]
  | .nils, v, h => by cases v <;> simp_all [AV.eq]
  | .slice _ _ _ _, v, h => by
    cases v <;> simp [AV.eq] at h
    rw [(Pos.eq_iff _ _).1 h.1.1.1, h.1.1.2, h.1.2, h.2]
  | .sliceU _ _ _ _, v, h => by
    cases v <;> simp [AV.eq] at h
    rw [(Pos.eq_iff _ _).1 h.1.1.1, h.1.1.2, h.1.2, h.2]
  | .sliceZ _ _ _ _ _, v, h => by
    cases v <;> simp [AV.eq] at h
    rw [(Pos.eq_iff _ _).1 h.1.1.1.1, h.1.1.1.2, h.1.1.2, h.1.2, h.2]
  | .nilm, v, h => by cases v <;> simp_all [AV.eq]
  | .map _, v, h => by
    cases v <;> simp [AV.eq] at h
    rw [(Pos.eq_iff _ _).1 h]
  | .func _ a b, v, h => by
    cases v <;> simp [AV.eq] at h
    rw [h.1.1, AV.eqL_ok a _ h.1.2, AV.eqL_ok b _ h.2]
  | .nilf, v, h => by cases v <;> simp_all [AV.eq]
  | .iface _ x, v, h => by
    cases v <;> simp [AV.eq] at h
    rw [h.1, AV.eq_ok x _ h.2]
  | .nili, v, h => by cases v <;> simp_all [AV.eq]
  | .agg a, v, h => by
    cases v <;> simp [AV.eq] at h
    rw [AV.eqL_ok a _ h]
  | .tup a, v, h => by
    cases v <;> simp [AV.eq] at h
    rw [AV.eqL_ok a _ h]
  | .sym _, v, h => by cases v <;> simp_all [AV.eq]
theorem AV.eqL_ok : ∀ (u v : List AV), AV.eqL u v = true → u = v
  | [], v, h => by cases v <;> simp_all [AV.eqL]
  | a :: l, v, h => by
    cases v <;> simp [AV.eqL] at h
    rw [AV.eq_ok a _ h.1, AV.eqL_ok l _ h.2]
end

/-- Memory has grown. -/
structure Grow (h : Tr Obj) (nx : Pos) (h' : Tr Obj) (nx' : Pos) : Prop where
  le : nx.num ≤ nx'.num
  same : ∀ b, b.num < nx.num → h'.get b = h.get b
  dom : (∀ b, nx.num ≤ b.num → h.get b = none) → ∀ b, nx'.num ≤ b.num → h'.get b = none

theorem Grow.refl (h : Tr Obj) (nx : Pos) : Grow h nx h nx := ⟨Nat.le_refl _, fun _ _ => rfl, fun h => h⟩

theorem Grow.trans {h h1 h2 : Tr Obj} {n n1 n2 : Pos} (a : Grow h n h1 n1) (b : Grow h1 n1 h2 n2) : Grow h n h2 n2 :=
  ⟨Nat.le_trans a.le b.le, fun x hx => by rw [b.same x (Nat.lt_of_lt_of_le hx a.le), a.same x hx], fun d => b.dom (a.dom d)⟩

theorem Grow.set (h : Tr Obj) (nx : Pos) (ob : Obj) : Grow h nx (Tr.set nx ob h) nx.succ :=
  ⟨by rw [Pos.num_succ]; omega, fun b hb => by rw [Tr.get_set, if_neg fun e => by rw [e] at hb; omega], fun d b hb => by
    rw [Pos.num_succ] at hb
    rw [Tr.get_set, if_neg fun e => by rw [e] at hb; omega]
    exact d b (by omega)⟩

def vidOf : AV → Option Pos
  | .ptr b _ => some b
  | .slice b _ _ _ => some b
  | .map b => some b
  | _ => none

/-- What a block's maker yields, of the block's number. -/
structure Mk (mk : Pos → AV) : Prop where
  vid : ∀ p, vidOf (mk p) = some p
  conc : ∀ (σ : Nat → Value) (c c' : Cx) p p', c'.ρ p' = c.ρ p → (mk p').conc σ c' = (mk p).conc σ c
  all : ∀ p (L : Pos → Prop), (mk p).all L ↔ L p

theorem Mk.ptr : Mk fun p => .ptr p 0 := ⟨fun _ => rfl, fun σ c c' p p' e => by simp only [AV.conc, e], fun _ _ => Iff.rfl⟩
theorem Mk.slice (n m : Nat) : Mk fun p => .slice p 0 n m := ⟨fun _ => rfl, fun σ c c' p p' e => by simp only [AV.conc, e], fun _ _ => Iff.rfl⟩
theorem Mk.map : Mk fun p => .map p := ⟨fun _ => rfl, fun σ c c' p p' e => by simp only [AV.conc, e], fun _ _ => Iff.rfl⟩

theorem newPtr_shape {elem : TypeId} {l : List AV} {h : Tr Obj} {nx : Pos} : newPtr elem l h nx = .val (.ptr nx 0) (Tr.set nx (.row elem (rowOf l) false 0 true) h) nx.succ := by
  unfold newPtr; rw [newK_eq]

theorem evS_alloc {P : Program} {o : Oper} (ho : isAlloc o = true) {xs : List AV} {h h' : Tr Obj} {nx nx' : Pos} {v : AV} (he : evS P o xs h nx = .val v h' nx') :
    ∃ ob mk, Mk mk ∧ ∀ h nx, evS P o xs h nx = .val (mk nx) (Tr.set nx ob h) nx.succ := by
  unfold isAlloc at ho
  unfold evS at he ⊢
  cases hop : o.op <;> rw [hop] at ho he <;> simp only [reduceCtorEq] at ho he ⊢
  case alloc t =>
    unfold evAlloc at he ⊢
    split at he
    · split at he
      · split at he
        · split at he
          · exact ⟨_, _, Mk.ptr, fun h nx => newPtr_shape⟩
          · cases he
        · cases he
      · cases he
    · cases he
  case box t x =>
    split at he
    · unfold evBox at he ⊢
      split at he
      · exact ⟨_, _, Mk.ptr, fun h nx => newPtr_shape⟩
      · cases he
    · cases he
  case buildSlice t n ps =>
    unfold evBuildSlice at he ⊢
    split at he
    · split at he
      · split at he
        · split at he
          · exact ⟨_, _, Mk.slice _ _, fun h nx => by rw [newK_eq]⟩
          · cases he
        · cases he
      · cases he
    · cases he
  case makeMap t r =>
    cases r with
    | some _ => cases he
    | none =>
      exact ⟨_, _, Mk.map, fun h nx => by unfold evMakeMap; rw [newK_eq]⟩

theorem evAs_congr {f g : Operand → Option AV} : ∀ {l : List Operand}, (∀ x ∈ l, f x = g x) → evAs f l = evAs g l
  | [], _ => rfl
  | x :: l, h => by
    rw [evAs, evAs, h x List.mem_cons_self, evAs_congr fun y hy => h y (List.mem_cons_of_mem _ hy)]

section
variable {P : Program} {gv : Nat → Option Pos} {ex : FuncId → List AV → Option AV} {cl : Callee} {ops : Array Oper} {all : List (Inf × Nat)} {k : Nat} {e0 : En}

theorem guardA_congr {V V' : En} {o : Oper} (h : ∀ g b, o.guard = some (g, b) → getA V g = getA V' g) : guardA ops V o = guardA ops V' o := by
  unfold guardA
  cases hg : o.guard with
  | none => rfl
  | some gb =>
    obtain ⟨g, b⟩ := gb
    simp only [h g b hg]

theorem opA_congr {V V' : En} {x : Inf} (h : ∀ i, inMask x.m i = true → getA V i = getA V' i) (y : Operand) : opA gv all x V e0 y = opA gv all x V' e0 y := by
  cases y with
  | tmp t =>
    simp only [opA]
    cases writer t all with
    | none => rfl
    | some y =>
      simp only
      cases hm : inMask x.m y.1.i with
      | true => simp only [h _ hm]
      | false => rfl
  | const v => rfl
  | global g => rfl
  | func f => rfl

theorem evOne_congr (p : Plan ops all k) {x : Inf × Nat} (hx : x ∈ all) {V V' : En} (h : ∀ i, inMask x.1.m i = true → getA V i = getA V' i) (hh : Tr Obj) (nx : Pos) :
    evOne P gv ex cl ops all e0 x.1 V hh nx = evOne P gv ex cl ops all e0 x.1 V' hh nx := by
  unfold evOne
  rw [guardA_congr (V := V) (V' := V') fun g b hg => h g (p.guard x hx g b hg), evAs_congr (g := opA gv all x.1 V' e0) fun y _ => opA_congr h y]

/-- An operation that is no effect. -/
def Still (one : Inf → En → Tr Obj → Pos → Rs) (x : Inf) : Prop :=
  ∀ V h nx v h1 n1, one x V h nx = .val v h1 n1 →
    (h1 = h ∧ n1 = nx ∧ (isAlloc x.o = true → vidOf v = none)) ∨ (isAlloc x.o = true ∧ vidOf v = some nx ∧ ∃ ob, h1 = Tr.set nx ob h ∧ n1 = nx.succ)

theorem Still.grow {one : Inf → En → Tr Obj → Pos → Rs} {x : Inf} (s : Still one x) {V : En} {h h1 : Tr Obj} {nx n1 : Pos} {v : AV} (hv : one x V h nx = .val v h1 n1) : Grow h nx h1 n1 := by
  rcases s _ _ _ _ _ _ hv with ⟨rfl, rfl, _⟩ | ⟨_, _, ob, rfl, rfl⟩
  · exact Grow.refl _ _
  · exact Grow.set _ _ _

theorem evO_alloc {o : Oper} (ho : isAlloc o = true) (xs : List AV) (h : Tr Obj) (nx : Pos) : evO P ex cl o xs h nx = evS P o xs h nx := by
  unfold evO
  split
  · rename_i hop; unfold isAlloc at ho; rw [hop] at ho; cases ho
  · rfl

theorem evOne_still {x : Inf} (he : isEff x.o = false) : Still (evOne P gv ex cl ops all e0) x := by
  intro V h nx v h1 n1 hv
  unfold evOne at hv
  split at hv
  · split at hv
    · rename_i xs hxs
      rw [he, Bool.false_or] at hv
      cases ha : isAlloc x.o with
      | true =>
        rw [ha] at hv; simp only at hv
        rw [evO_alloc ha] at hv
        obtain ⟨ob, mk, hm, hs⟩ := evS_alloc ha hv
        rw [hs] at hv
        cases hv
        exact .inr ⟨rfl, hm.vid _, ob, rfl, rfl⟩
      | false =>
        rw [ha] at hv; simp only at hv
        left
        have : ∀ o : Option AV, Rs.pure h nx o = .val v h1 n1 → h1 = h ∧ n1 = nx := by
          intro o ho
          cases o with
          | none => cases ho
          | some a => cases ho; exact ⟨rfl, rfl⟩
        split at hv
        · obtain ⟨g1, g2⟩ := this _ hv; exact ⟨g1, g2, fun q => by cases q⟩
        · obtain ⟨g1, g2⟩ := this _ hv; exact ⟨g1, g2, fun q => by cases q⟩
    · cases hv
  · cases hv; exact .inl ⟨rfl, rfl, fun _ => rfl⟩
  · cases hv

/-- What a run of operations that are no effects has shown; the values that they yielded stand in V. -/
structure Stills (one : Inf → En → Tr Obj → Pos → Rs) (V : En) (l : List Inf) (h : Tr Obj) (nx : Pos) (h' : Tr Obj) (nx' : Pos) : Prop where
  grow : Grow h nx h' nx'
  each : ∀ x ∈ l, ∃ Vt ht nt ht1 nt1, one x Vt ht nt = .val (getA V x.i) ht1 nt1 ∧ (∀ i, inMask x.m i = true → getA Vt i = getA V i) ∧ Grow h nx ht nt ∧ Grow ht1 nt1 h' nx'
  apart : ∀ x ∈ l, ∀ y ∈ l, isAlloc x.o = true → isAlloc y.o = true → ∀ u, vidOf (getA V x.i) = some u → vidOf (getA V y.i) = some u → x.i = y.i

theorem Stills.range {one : Inf → En → Tr Obj → Pos → Rs} {V : En} {l : List Inf} {h : Tr Obj} {nx : Pos} {h' : Tr Obj} {nx' : Pos} (s : Stills one V l h nx h' nx') (hs : ∀ x ∈ l, Still one x)
    {x : Inf} (hx : x ∈ l) (ha : isAlloc x.o = true) {u : Pos} (hu : vidOf (getA V x.i) = some u) : nx.num ≤ u.num ∧ u.num < nx'.num := by
  obtain ⟨Vt, ht, nt, ht1, nt1, h1, h2, h3, h4⟩ := s.each x hx
  rcases hs x hx _ _ _ _ _ _ h1 with ⟨_, _, h5⟩ | ⟨_, h5, ob, _, h6⟩
  · rw [h5 ha] at hu; cases hu
  · rw [h5] at hu; cases hu
    have := h3.le
    have := h4.le
    rw [h6, Pos.num_succ] at this
    omega

theorem evStage_still {one : Inf → En → Tr Obj → Pos → Rs} {hs : List (Tr Obj × Pos)} : ∀ (l : List Inf) {V : En} {h : Tr Obj} {nx : Pos} {V' : En} {h' : Tr Obj} {nx' : Pos} {hs' : List (Tr Obj × Pos)},
    evStage one hs l V h nx = .ok V' h' nx' hs' → (∀ x ∈ l, Still one x) → (∀ x ∈ l, ∀ i, inMask x.m i = true → i < x.i) → l.Pairwise (fun x y => x.i < y.i) →
    hs' = (h', nx') :: hs ∧ (∀ i, (∀ x ∈ l, x.i ≠ i) → getA V' i = getA V i) ∧ Stills one V' l h nx h' nx'
  | [], V, h, nx, V', h', nx', hs', he, _, _, _ => by
    cases he
    exact ⟨rfl, fun _ _ => rfl, Grow.refl _ _, by simp, by simp⟩
  | x :: l, V, h, nx, V', h', nx', hs', he, hst, hm, hp => by
    rw [List.pairwise_cons] at hp
    rw [evStage] at he
    cases h1 : one x V h nx with
    | fail => rw [h1] at he; cases he
    | val v ha na =>
      rw [h1] at he; simp only at he
      obtain ⟨g1, g2, g3⟩ := evStage_still l he (fun y hy => hst y (List.mem_cons_of_mem _ hy)) (fun y hy => hm y (List.mem_cons_of_mem _ hy)) hp.2
      have hx := hst x List.mem_cons_self
      have hgrow := hx.grow h1
      have hV' : getA V' x.i = v := by
        rw [g2 x.i fun y hy => by have := hp.1 y hy; omega, getA_set, if_pos rfl]
      have hlow : ∀ i, i < x.i → getA V i = getA V' i := fun i hi => by
        rw [g2 i fun y hy => by have := hp.1 y hy; omega, getA_set, if_neg (by omega)]
      refine ⟨g1, fun i hi => ?_, hgrow.trans g3.grow, ?_, ?_⟩
      · rw [g2 i fun y hy => hi y (List.mem_cons_of_mem _ hy), getA_set, if_neg (Ne.symm (hi x List.mem_cons_self))]
      · intro y hy
        rcases List.mem_cons.1 hy with rfl | hy1
        · exact ⟨V, h, nx, ha, na, by rw [hV']; exact h1, fun i hi => hlow i (hm y List.mem_cons_self i hi), Grow.refl _ _, g3.grow⟩
        · obtain ⟨Vt, ht, nt, ht1, nt1, q1, q2, q3, q4⟩ := g3.each y hy1
          exact ⟨Vt, ht, nt, ht1, nt1, q1, q2, hgrow.trans q3, q4⟩
      · have key : ∀ y ∈ l, isAlloc x.o = true → isAlloc y.o = true → ∀ u, vidOf (getA V' x.i) = some u → vidOf (getA V' y.i) = some u → False := by
          intro y hy ha1 ha2 u hu1 hu2
          have := (g3.range (fun z hz => hst z (List.mem_cons_of_mem _ hz)) hy ha2 hu2).1
          rw [hV'] at hu1
          rcases hx _ _ _ _ _ _ h1 with ⟨_, _, h5⟩ | ⟨_, h5, ob, _, h6⟩
          · rw [h5 ha1] at hu1; cases hu1
          · rw [h5] at hu1; cases hu1
            rw [h6, Pos.num_succ] at this; omega
        intro y hy z hz ha1 ha2 u hu1 hu2
        rcases List.mem_cons.1 hy with rfl | hy1 <;> rcases List.mem_cons.1 hz with rfl | hz1
        · rfl
        · exact (key z hz1 ha1 ha2 u hu1 hu2).elim
        · exact (key y hy1 ha2 ha1 u hu2 hu1).elim
        · exact g3.apart y hy1 z hz1 ha1 ha2 u hu1 hu2

/-- What a stage has shown. -/
def StageOk (one : Inf → En → Tr Obj → Pos → Rs) (all : List (Inf × Nat)) (V : En) (H : Nat → Tr Obj × Pos) (j : Nat) : Prop :=
  (j = 0 ∧ Stills one V (stageOf 0 all) (H 0).1 (H 0).2 (H 1).1 (H 1).2) ∨
  (1 ≤ j ∧ ∃ x l h1 n1 Vt, stageOf j all = x :: l ∧ isEff x.o = true ∧ (∀ y ∈ l, isEff y.o = false) ∧ one x Vt (H j).1 (H j).2 = .val (getA V x.i) h1 n1 ∧
    (∀ i, inMask x.m i = true → getA Vt i = getA V i) ∧ Stills one V l h1 n1 (H (j + 1)).1 (H (j + 1)).2)

theorem Stills.keep {one : Inf → En → Tr Obj → Pos → Rs} {V V' : En} {l : List Inf} {h : Tr Obj} {nx : Pos} {h' : Tr Obj} {nx' : Pos} (s : Stills one V l h nx h' nx')
    (hk : ∀ x ∈ l, getA V' x.i = getA V x.i ∧ ∀ i, inMask x.m i = true → getA V' i = getA V i) : Stills one V' l h nx h' nx' := by
  refine ⟨s.grow, fun x hx => ?_, fun x hx y hy => ?_⟩
  · obtain ⟨Vt, ht, nt, ht1, nt1, q1, q2, q3, q4⟩ := s.each x hx
    obtain ⟨k1, k2⟩ := hk x hx
    exact ⟨Vt, ht, nt, ht1, nt1, by rw [k1]; exact q1, fun i hi => by rw [k2 i hi]; exact q2 i hi, q3, q4⟩
  · rw [(hk x hx).1, (hk y hy).1]
    exact s.apart x hx y hy

theorem StageOk.keep {one : Inf → En → Tr Obj → Pos → Rs} {V V' : En} {H H' : Nat → Tr Obj × Pos} {j : Nat} (s : StageOk one all V H j)
    (hk : ∀ x ∈ stageOf j all, getA V' x.i = getA V x.i ∧ ∀ i, inMask x.m i = true → getA V' i = getA V i) (h1 : H' j = H j) (h2 : H' (j + 1) = H (j + 1)) : StageOk one all V' H' j := by
  rcases s with ⟨rfl, s⟩ | ⟨g1, x, l, ha, na, Vt, g2, g3, g4, g5, g6, g7⟩
  · left
    rw [show (1 : Nat) = 0 + 1 from rfl, h1, h2]
    exact ⟨rfl, s.keep hk⟩
  · right
    rw [g2] at hk
    refine ⟨g1, x, l, ha, na, Vt, g2, g3, g4, ?_, ?_, ?_⟩
    · rw [h1, (hk x List.mem_cons_self).1]; exact g5
    · intro i hi; rw [(hk x List.mem_cons_self).2 i hi]; exact g6 i hi
    · rw [h2]; exact g7.keep fun y hy => hk y (List.mem_cons_of_mem _ hy)

/-- One stage. -/
theorem evStage_ok (p : Plan ops all k) {one : Inf → En → Tr Obj → Pos → Rs} (hstill : ∀ x, isEff x.o = false → Still one x) {hs hs' : List (Tr Obj × Pos)} {j : Nat} (hj : j ≤ k) {V V' : En} {h h' : Tr Obj} {nx nx' : Pos}
    (he : evStage one hs (stageOf j all) V h nx = .ok V' h' nx' hs') :
    hs' = (h', nx') :: hs ∧ (∀ i, (∀ x ∈ stageOf j all, x.i ≠ i) → getA V' i = getA V i) ∧ ∀ H : Nat → Tr Obj × Pos, H j = (h, nx) → H (j + 1) = (h', nx') → StageOk one all V' H j := by
  have hmask : ∀ x ∈ stageOf j all, ∀ i, inMask x.m i = true → i < x.i := fun x hx i hi => by
    obtain ⟨⟨b, hb⟩, _⟩ := mem_stage.1 hx
    exact p.mask hb hi
  have hsort := stageOf_sorted (j := j) p.bnd.sorted
  rcases Nat.eq_zero_or_pos j with rfl | hj1
  · obtain ⟨g1, g2, g3⟩ := evStage_still _ he (fun x hx => hstill x (p.still x hx)) hmask hsort
    refine ⟨g1, g2, fun H h1 h2 => .inl ⟨rfl, ?_⟩⟩
    rw [h1, show (1 : Nat) = 0 + 1 from rfl, h2]
    exact g3
  · obtain ⟨x, l, g1, g2, g3⟩ := p.head hj1 hj
    rw [g1] at he hmask hsort ⊢
    rw [List.pairwise_cons] at hsort
    rw [evStage] at he
    cases h1 : one x V h nx with
    | fail => rw [h1] at he; cases he
    | val v ha na =>
      rw [h1] at he; simp only at he
      obtain ⟨q1, q2, q3⟩ := evStage_still l he (fun y hy => hstill y (g3 y hy)) (fun y hy => hmask y (List.mem_cons_of_mem _ hy)) hsort.2
      have hV' : getA V' x.i = v := by
        rw [q2 x.i fun y hy => by have := hsort.1 y hy; omega, getA_set, if_pos rfl]
      have hlow : ∀ i, i < x.i → getA V i = getA V' i := fun i hi => by
        rw [q2 i fun y hy => by have := hsort.1 y hy; omega, getA_set, if_neg (by omega)]
      refine ⟨q1, fun i hi => ?_, fun H e1 e2 => .inr ⟨hj1, x, l, ha, na, V, g1, g2, g3, ?_, ?_, ?_⟩⟩
      · rw [q2 i fun y hy => hi y (List.mem_cons_of_mem _ hy), getA_set, if_neg (Ne.symm (hi x List.mem_cons_self))]
      · rw [e1, hV']; exact h1
      · exact fun i hi => hlow i (hmask x List.mem_cons_self i hi)
      · rw [e2]; exact q3

theorem evStages_ok (p : Plan ops all k) {one : Inf → En → Tr Obj → Pos → Rs} (hstill : ∀ x, isEff x.o = false → Still one x) : ∀ (n j : Nat) {hs hs' : List (Tr Obj × Pos)} {V V' : En} {h h' : Tr Obj} {nx nx' : Pos}, j + n ≤ k + 1 →
    evStages one ((List.range' j n).map fun j => stageOf j all) V h nx hs = .ok V' h' nx' hs' →
    ∃ H : Nat → Tr Obj × Pos, H j = (h, nx) ∧ H (j + n) = (h', nx') ∧ hs' = ((List.range' j n).map fun i => H (i + 1)).reverse ++ hs ∧
      (∀ i, (∀ x ∈ all, j ≤ x.1.r → x.1.i ≠ i) → getA V' i = getA V i) ∧ ∀ i, j ≤ i → i < j + n → StageOk one all V' H i
  | 0, j, hs, hs', V, V', h, h', nx, nx', hj, he => by
    cases he
    exact ⟨fun _ => (h, nx), rfl, rfl, rfl, fun _ _ => rfl, fun i h1 h2 => by omega⟩
  | n + 1, j, hs, hs', V, V', h, h', nx, nx', hj, he => by
    rw [List.range'_succ, List.map_cons, evStages] at he
    cases h1 : evStage one hs (stageOf j all) V h nx with
    | fail => rw [h1] at he; cases he
    | ok V1 ha na hs1 =>
      rw [h1] at he; simp only at he
      obtain ⟨q1, q2, q3⟩ := evStage_ok p hstill (by omega) h1
      obtain ⟨H, g1, g2, g3, g4, g5⟩ := evStages_ok p hstill n (j + 1) (by omega) he
      have hH : ∀ i, j < i → (if i = j then (h, nx) else H i) = H i := fun i hi => if_neg (by omega)
      refine ⟨fun i => if i = j then (h, nx) else H i, if_pos rfl, ?_, ?_, ?_, ?_⟩
      · show (if j + (n + 1) = j then _ else _) = _
        rw [if_neg (by omega), ← g2]; congr 1; omega
      · rw [g3, q1, List.range'_succ, List.map_cons, List.reverse_cons, List.append_assoc]
        have : (if j + 1 = j then (h, nx) else H (j + 1)) = (ha, na) := by rw [if_neg (by omega), g1]
        dsimp only
        rw [this]
        rw [List.singleton_append]
        congr 2
        refine List.map_congr_left fun i hi => ?_
        have := (List.mem_range'_1.1 hi).1
        rw [if_neg (by omega)]
      · intro i hi
        rw [g4 i fun x hx hr => hi x hx (by omega), q2 i fun x hx => by
          obtain ⟨⟨b, hb⟩, hr⟩ := mem_stage.1 hx
          exact hi _ hb (by simp only; omega)]
      · intro i hi1 hi2
        have hlater : ∀ y ∈ all, y.1.r ≤ j → getA V' y.1.i = getA V1 y.1.i := fun y hy hr => g4 _ fun z hz hzr e => by
          have := p.uniq z hz y hy e
          rw [this] at hzr; omega
        by_cases hij : i = j
        · subst hij
          refine (q3 (fun i' => if i' = i then (h, nx) else H i') (if_pos rfl) (by show (if i + 1 = i then _ else _) = _; rw [if_neg (by omega), g1])).keep ?_ rfl rfl
          intro x hx
          obtain ⟨⟨b, hb⟩, hr⟩ := mem_stage.1 hx
          refine ⟨hlater _ hb (by simp only; omega), fun m hm => ?_⟩
          obtain ⟨y, hy, hye⟩ := p.full m (Nat.lt_trans (p.mask hb hm) (p.lt hb))
          rw [← hye] at hm ⊢
          exact hlater y hy (by have := (p.pre _ hb y hy hm).1; simp only at this; omega)
        · refine (g5 i (by omega) (by omega)).keep (fun x hx => ⟨rfl, fun _ _ => rfl⟩) ?_ ?_
          · exact if_neg hij
          · exact if_neg (by omega)

/-- The whole run. -/
structure Ran (one : Inf → En → Tr Obj → Pos → Rs) (all : List (Inf × Nat)) (k : Nat) (V : En) (H : Nat → Tr Obj × Pos) : Prop where
  stage : ∀ j, j ≤ k → StageOk one all V H j

theorem steady_ok {f : Tr Obj → Option AV} {v : AV} {lo hi : Nat} {H : Nat → Tr Obj × Pos} : ∀ {n : Nat}, steady f v lo hi ((List.range' 0 n).map fun i => H (i + 1)).reverse n = true →
    ∀ j, lo ≤ j → j ≤ hi → j < n → f (H (j + 1)).1 = some v
  | 0, _, j, _, _, hj => by omega
  | n + 1, h, j, h1, h2, hj => by
    rw [List.range'_concat, List.map_append, List.reverse_append] at h
    simp only [List.map_cons, List.map_nil, List.reverse_cons, List.reverse_nil, List.nil_append, List.singleton_append, Nat.zero_add, Nat.one_mul] at h
    rw [steady] at h
    have hsub : Nat.sub (n + 1) 1 = n := rfl
    rw [hsub] at h
    cases hb : (Nat.ble lo n && Nat.ble n hi) with
    | true =>
      rw [hb] at h; simp only at h
      split at h
      · rename_i u hu
        split at h
        · rename_i hq
          by_cases hjn : j = n
          · subst hjn; rw [hu, AV.eq_ok _ _ hq]
          · exact steady_ok h j h1 h2 (by omega)
        · cases h
      · cases h
    | false =>
      rw [hb] at h; simp only at h
      by_cases hjn : j = n
      · subst hjn
        rw [Nat.ble_eq_true_of_le h1, Nat.ble_eq_true_of_le h2] at hb; cases hb
      · exact steady_ok h j h1 h2 (by omega)

theorem steadyAll_ok {V : En} {hs : List (Tr Obj × Pos)} {n : Nat} : ∀ {l : List (Inf × Nat)}, steadyAll P gv ops all e0 V hs n l = true → ∀ x ∈ l, steadyOp P gv ops all e0 V hs n x = true
  | [], _, x, hx => by cases hx
  | y :: l, h, x, hx => by
    rw [steadyAll] at h
    split at h
    · rename_i hy
      rcases List.mem_cons.1 hx with rfl | hx
      · exact hy
      · exact steadyAll_ok h x hx
    · cases h

theorem putAll_ok {nt : Nat} {V : En} {h : Tr Obj} {nx : Pos} : ∀ {l : List (Inf × Nat)} {e : En} {x : Ex} {e' : En} {h' : Tr Obj} {nx' : Pos}, putAll nt V h nx l e = .ok x e' h' nx' →
    l.Pairwise (fun x y => ∀ d, x.1.o.dst = some d → y.1.o.dst ≠ some d) →
    x = .normal ∧ h' = h ∧ nx' = nx ∧ (∀ y ∈ l, ∀ d, y.1.o.dst = some d → d < nt) ∧ (∀ t, getA e' t = match writer t l with | some y => getA V y.1.i | none => getA e t) ∧
    ∀ t, nt ≤ t → getA e' t = getA e t
  | [], e, x, e', h', nx', he, _ => by
    cases he
    exact ⟨rfl, rfl, rfl, by simp, fun t => rfl, fun _ _ => rfl⟩
  | y :: l, e, x, e', h', nx', he, hp => by
    rw [List.pairwise_cons] at hp
    rw [putAll] at he
    unfold putE at he
    cases hd : y.1.o.dst with
    | none =>
      rw [hd] at he; simp only at he
      obtain ⟨h1, h2, h3, h4, h5, h6⟩ := putAll_ok he hp.2
      refine ⟨h1, h2, h3, ?_, ?_, h6⟩
      · intro z hz d hzd
        rcases List.mem_cons.1 hz with rfl | hz
        · rw [hd] at hzd; cases hzd
        · exact h4 z hz d hzd
      · intro t
        rw [h5 t, writer, hd]
    | some d =>
      rw [hd] at he; simp only at he
      cases hlt : Nat.blt d nt with
      | false => rw [hlt] at he; cases he
      | true =>
        rw [hlt] at he; simp only at he
        have hlt' : d < nt := by rw [Nat.blt_eq] at hlt; exact hlt
        obtain ⟨h1, h2, h3, h4, h5, h6⟩ := putAll_ok he hp.2
        refine ⟨h1, h2, h3, ?_, ?_, ?_⟩
        · intro z hz d' hzd
          rcases List.mem_cons.1 hz with rfl | hz
          · rw [hd] at hzd; cases hzd; exact hlt'
          · exact h4 z hz d' hzd
        · intro t
          rw [h5 t, writer, hd]
          simp only
          cases hb : Nat.beq d t with
          | true =>
            have := Nat.eq_of_beq_eq_true hb
            subst this
            have hn : writer d l = none := by
              cases hw : writer d l with
              | none => rfl
              | some z => exact absurd (writer_some hw).2 (hp.1 z (writer_some hw).1 d hd)
            rw [hn]
            simp only
            rw [getA_set, if_pos rfl]
          | false =>
            have := Nat.ne_of_beq_eq_false hb
            simp only
            cases writer t l with
            | none => simp only; rw [getA_set, if_neg (Ne.symm this)]
            | some z => rfl
        · intro t ht
          rw [h6 t ht, getA_set, if_neg fun q2 => by rw [q2] at ht; exact Nat.not_le_of_lt hlt' ht]

end
end Go.Ev
