/- Maps, iterators, the least and the greatest, texts over bytes. -/
import Derived.Test.YteijaoaiiddcgaaGreatDoorEvOps6
namespace Go.Ev
open Go

noncomputable section
section
variable {σ : Nat → Value} {P : Program} {gv : Nat → Option Pos} {c : Cx} {h : Tr Obj} {nx : Pos} {w : World}

theorem evMin2_ok {a b v : AV} (hv : evMin2 false a b = some v) (w : World) : (Builtin.min2 (a.conc σ c) (b.conc σ c)).run P w = .ok (v.conc σ c) w ∧ ∀ p, v.all p := by
  unfold evMin2 at hv
  split at hv
  · rename_i k u k' v'
    split at hv
    · rename_i hk
      have hk := of_decide_eq_true hk
      subst hk
      have hlt : (k.wrap (v' : Int) < k.wrap (u : Int)) ↔ Nat.blt (ordN k v') (ordN k u) = true := by rw [ordN_lt, Nat.blt_eq]
      split at hv
      · rename_i h1 h2; cases h2
      · rename_i h1 h2; cases hv
        refine ⟨?_, fun _ => trivial⟩
        simp only [AV.conc, Builtin.min2, if_pos (hlt.2 h1), Sem.run_pure]
      · rename_i h1 h2; cases h2
      · rename_i h1 h2; cases hv
        refine ⟨?_, fun _ => trivial⟩
        have : ¬ (k.wrap (v' : Int) < k.wrap (u : Int)) := fun hh => by rw [hlt, h1] at hh; cases hh
        simp only [AV.conc, Builtin.min2, if_neg this, Sem.run_pure]
    · cases hv
  · cases hv

theorem evMax2_ok {a b v : AV} (hv : evMin2 true a b = some v) (w : World) : (Builtin.max2 (a.conc σ c) (b.conc σ c)).run P w = .ok (v.conc σ c) w ∧ ∀ p, v.all p := by
  unfold evMin2 at hv
  split at hv
  · rename_i k u k' v'
    split at hv
    · rename_i hk
      have hk := of_decide_eq_true hk
      subst hk
      have hgt : (k.wrap (v' : Int) > k.wrap (u : Int)) ↔ Nat.blt (ordN k u) (ordN k v') = true := by rw [gt_iff_lt, ordN_lt, Nat.blt_eq]
      have hlt : (k.wrap (v' : Int) < k.wrap (u : Int)) ↔ Nat.blt (ordN k v') (ordN k u) = true := by rw [ordN_lt, Nat.blt_eq]
      split at hv
      · rename_i h1 h2; cases hv
        refine ⟨?_, fun _ => trivial⟩
        have : ¬ (k.wrap (v' : Int) > k.wrap (u : Int)) := by have := hlt.2 h1; omega
        simp only [AV.conc, Builtin.max2, if_neg this, Sem.run_pure]
      · rename_i h1 h2; cases h2
      · split at hv
        · rename_i h3; cases hv
          refine ⟨?_, fun _ => trivial⟩
          simp only [AV.conc, Builtin.max2, if_pos (hgt.2 h3), Sem.run_pure]
        · rename_i h3; cases hv
          refine ⟨?_, fun _ => trivial⟩
          have : ¬ (k.wrap (v' : Int) > k.wrap (u : Int)) := fun hh => by rw [hgt, h3] at hh; cases hh
          simp only [AV.conc, Builtin.max2, if_neg this, Sem.run_pure]
      · rename_i h1 h2; cases h2
    · cases hv
  · cases hv

/-- A key is another one. -/
def keyEq (P : Program) (t : TypeId) (k e : AV) (h : Tr Obj) : Option Bool :=
  match P.underlying t with
  | some (.int _) => match k, e with
    | .int j u, .int j' v => match decide (j = j') with
      | true => some (Nat.beq (ordN j u) (ordN j v))
      | false => none
    | _, _ => none
  | some .string => match k, e with
    | .str n a, .str m b => some (strEq n a m b)
    | _, _ => none
  | some (.pointer el) => match k, e with
    | .ptr b off, .ptr b' off' => match P.info? el, Nat.beq (P.cellsOf el) 0 with
      | some _, false => match Pos.eq b b' with
        | true => some (Nat.beq off off')
        | false => match h.get b, h.get b' with
          | some (.row _ _ _ _ true), some (.row _ _ _ _ true) => some false
          | _, _ => none
      | _, _ => none
    | _, _ => none
  | _ => none

/-- Where a key stands. -/
def findA (P : Program) (t : TypeId) (k : AV) (h : Tr Obj) : List (AV × AV) → Nat → Option (Option (Nat × AV))
  | [], _ => some none
  | e :: es, i => match keyEq P t k e.1 h with
    | some true => some (some (i, e.2))
    | some false => findA P t k h es (i + 1)
    | none => none

def plainKey (P : Program) (t : TypeId) : Bool :=
  match P.underlying t with
  | some (.int _) => true
  | some .string => true
  | some (.pointer _) => true
  | _ => false

theorem run_checkKey {t : TypeId} (ht : plainKey P t = true) (empty : Bool) (d : Nat) (v : Value) (w : World) : (Instr.checkKey empty (d + 1) t v).run P w = .ok () w := by
  unfold plainKey at ht
  cases hu : P.underlying t with
  | none => rw [hu] at ht; cases ht
  | some d => rw [hu] at ht; cases d <;> simp at ht <;> simp [Instr.checkKey, run_underlying hu]

theorem keyEq_plain {t : TypeId} {k e : AV} {b : Bool} (hk : keyEq P t k e h = some b) : plainKey P t = true := by
  unfold keyEq at hk
  unfold plainKey
  cases hu : P.underlying t with
  | none => rw [hu] at hk; cases hk
  | some d => rw [hu] at hk; cases d <;> first | rfl | cases hk

/-- Keys that are the same stand for one value. -/
theorem keyEq_same {t : TypeId} {k e : AV} (hk : keyEq P t k e h = some true) : k.conc σ c = e.conc σ c ∧ ∀ n, Instr.sameBits n (e.conc σ c) (k.conc σ c) = true := by
  unfold keyEq at hk
  split at hk
  · split at hk
    · rename_i j u j' v
      split at hk
      · rename_i hj
        have hj := of_decide_eq_true hj
        subst hj
        simp only [Option.some.injEq] at hk
        have : j.wrap (u : Int) = j.wrap (v : Int) := (ordN_inj j u v).2 (Nat.eq_of_beq_eq_true hk)
        refine ⟨by simp only [AV.conc, this], fun n => ?_⟩
        simp only [AV.conc, this]
        cases n <;> simp [Instr.sameBits]
      · cases hk
    · cases hk
  · split at hk
    · rename_i n a m b
      simp only [Option.some.injEq] at hk
      have : bytesOf n a = bytesOf m b := by rw [← strEq_eq] at hk; exact beq_iff_eq.1 hk
      have : textOf n a = textOf m b := by unfold textOf; rw [this]
      refine ⟨by simp only [AV.conc, this], fun n => ?_⟩
      simp only [AV.conc, this]
      have hb : (textOf m b == textOf m b) = true := by rw [beq_toListBytes]; simp
      cases n <;> simp [Instr.sameBits, hb]
    · cases hk
  · split at hk
    · rename_i b off b' off'
      split at hk
      · split at hk
        · rename_i hb
          rw [Pos.eq_iff] at hb
          subst hb
          simp only [Option.some.injEq] at hk
          have := Nat.eq_of_beq_eq_true hk
          subst this
          refine ⟨rfl, fun n => ?_⟩
          simp only [AV.conc]
          cases n <;> simp [Instr.sameBits]
        · split at hk <;> cases hk
      · cases hk
    · cases hk
  · cases hk

theorem findA_all {t : TypeId} {k : AV} {p : Pos → Prop} : ∀ {es : List (AV × AV)} {i : Nat} {r : Nat × AV}, findA P t k h es i = some (some r) → (∀ x ∈ es, x.1.all p ∧ x.2.all p) →
    r.2.all p ∧ i ≤ r.1 ∧ ∃ x, es[r.1 - i]? = some x ∧ x.2 = r.2 ∧ keyEq P t k x.1 h = some true
  | [], i, r, hf, _ => by cases hf
  | e :: es, i, r, hf, ha => by
    rw [findA] at hf
    split at hf
    · rename_i hk
      cases hf
      exact ⟨(ha e (by simp)).2, Nat.le_refl _, e, by simp, rfl, hk⟩
    · obtain ⟨h1, h2, x, h3, h4, h5⟩ := findA_all hf (fun x hx => ha x (by simp [hx]))
      refine ⟨h1, by omega, x, ?_, h4, h5⟩
      rw [show r.1 - i = (r.1 - (i + 1)) + 1 by omega, List.getElem?_cons_succ]
      exact h3
    · cases hf

def entryOf (σ : Nat → Value) (c : Cx) (x : (AV × AV) × Nat) : MapEntry := { key := x.1.1.conc σ c, val := x.1.2.conc σ c, born := x.2 }

theorem entriesOf_eq (es : List (AV × AV)) : entriesOf σ c es = es.zipIdx.map (entryOf σ c) := rfl

theorem findA_now {t : TypeId} {d : TypeDesc} (hu : P.underlying t = some d) {k : AV} : ∀ {es : List (AV × AV)} {i j : Nat} {r : Option (Nat × AV)}, findA P t k h es i = some r → (∀ el, d ≠ .pointer el) →
    Instr.findNow d (k.conc σ c) ((es.zipIdx j).map (entryOf σ c)) i = some (r.map fun q => (q.1, q.2.conc σ c))
  | [], i, j, r, hf, _ => by cases hf; rfl
  | e :: es, i, j, r, hf, hd => by
    rw [findA] at hf
    rw [List.zipIdx_cons, List.map_cons, Instr.findNow]
    have key : ∀ b, keyEq P t k e.1 h = some b → Instr.sameNow d (k.conc σ c) (e.1.conc σ c) = some b := by
      intro b hk
      unfold keyEq at hk
      rw [hu] at hk
      cases d <;> simp only [reduceCtorEq] at hk
      case int kk =>
        split at hk
        · rename_i j u j' v he
          split at hk
          · rename_i hj
            have hj := of_decide_eq_true hj
            subst hj
            simp only [Option.some.injEq] at hk
            simp only [AV.conc, he, Instr.sameNow, if_true, beq_wrap, hk]
          · cases hk
        · cases hk
      case string =>
        split at hk
        · rename_i n a m b' he
          simp only [Option.some.injEq] at hk
          simp only [AV.conc, he, Instr.sameNow]
          rw [beq_toListBytes, textOf_toList, textOf_toList, strEq_eq, hk]
        · cases hk
      case pointer el => exact absurd rfl (hd el)
    simp only [entryOf]
    split at hf
    · rename_i hk
      cases hf
      rw [key _ hk]; rfl
    · rename_i hk
      rw [key _ hk]
      exact findA_now hu hf hd
    · cases hf

theorem findA_asking {t el : TypeId} (hu : P.underlying t = some (.pointer el)) {k : AV} (hkL : k.all c.L) (R : Rel σ P gv c h nx w) : ∀ {es : List (AV × AV)} {i j : Nat} {r : Option (Nat × AV)}, findA P t k h es i = some r → (∀ x ∈ es, x.1.all c.L) →
    (Instr.findAsking t (k.conc σ c) ((es.zipIdx j).map (entryOf σ c)) i).run P w = .ok (r.map fun q => (q.1, q.2.conc σ c)) w
  | [], i, j, r, hf, _ => by cases hf; rfl
  | e :: es, i, j, r, hf, ha => by
    rw [findA] at hf
    rw [List.zipIdx_cons, List.map_cons, Instr.findAsking]
    have key : ∀ b, keyEq P t k e.1 h = some b → (Op.equal t (k.conc σ c) (e.1.conc σ c)).run P w = .ok b w := by
      intro b hk
      have : evEq P t (cstOf (.tmp 0) (.tmp 0)) k e.1 h = some b := by
        unfold keyEq at hk
        rw [hu] at hk
        simp only at hk
        split at hk
        · rename_i he
          simp only [evEq, hu, he]
          exact hk
        · cases hk
      exact (evEq_ok t (.tmp 0) (.tmp 0) k e.1 hkL (ha e (by simp)) b this R .eql).2
    simp only [entryOf]
    split at hf
    · rename_i hk
      cases hf
      simp only [Sem.run_bind, key _ hk, Result.andThen_ok, if_true, Sem.run_pure, Option.map_some]
    · rename_i hk
      simp only [Sem.run_bind, key _ hk, Result.andThen_ok, Bool.false_eq_true, if_false]
      exact findA_asking hu hkL R hf (fun x hx => ha x (by simp [hx]))
    · cases hf

theorem findA_run {t : TypeId} (ht : plainKey P t = true) {k : AV} (hkL : k.all c.L) (R : Rel σ P gv c h nx w) {es : List (AV × AV)} {r : Option (Nat × AV)} (hf : findA P t k h es 0 = some r) (ha : ∀ x ∈ es, x.1.all c.L) :
    (Instr.findKey t (k.conc σ c) (entriesOf σ c es)).run P w = .ok (r.map fun q => (q.1, q.2.conc σ c)) w := by
  rw [entriesOf_eq]
  have ht0 := ht
  unfold plainKey at ht0
  cases hu : P.underlying t with
  | none => rw [hu] at ht0; cases ht0
  | some d =>
    simp only [Instr.findKey, Sem.run_bind, run_underlying hu, Result.andThen_ok]
    by_cases hd : ∃ el, d = .pointer el
    · obtain ⟨el, rfl⟩ := hd
      cases es with
      | nil => cases hf; rfl
      | cons e es =>
        have h0 : Instr.findNow (.pointer el) (k.conc σ c) (((e :: es).zipIdx 0).map (entryOf σ c)) 0 = none := by
          rw [List.zipIdx_cons, List.map_cons, Instr.findNow]
          simp [Instr.sameNow]
        rw [h0]
        exact findA_asking hu hkL R hf ha
    · rw [findA_now hu hf fun el he => hd ⟨el, he⟩]
      rfl

def evLookup (P : Program) (t : TypeId) (x k : AV) (ok : Bool) (h : Tr Obj) : Option AV :=
  match P.underlying t with
  | some (.map kt el) => match plainKey P kt, (match x with
      | .nilm => some none
      | .map b => match h.get b with
        | some (.map es) => findA P kt k h es 0
        | _ => none
      | _ => none) with
    | true, some r => match (match r with
        | some (_, v) => some (v, true)
        | none => match P.info? el with
          | some i => match i.zero with
            | some z => match ofVal z with
              | some a => some (a, false)
              | none => none
            | none => none
          | none => none) with
      | some (v, b) => match ok with
        | true => some (.tup [v, .bool b])
        | false => some v
      | none => none
    | _, _ => none
  | _ => none

theorem evLookup_ok (t : TypeId) (x k : AV) (ok : Bool) (hx : x.all c.L) (hk : k.all c.L) : OpPure σ P gv (Instr.lookup t (x.conc σ c) (k.conc σ c) ok) c h nx w (evLookup P t x k ok h) := by
  unfold evLookup
  cases hu : P.underlying t with
  | none => trivial
  | some d =>
    cases d <;> simp only <;> try trivial
    case map kt el =>
      split
      · rename_i r hp hr
        split
        · rename_i v b hv
          have main : Rel σ P gv c h nx w → (∃ es : List MapEntry, ((x = .nilm ∧ es = []) ∨ ∃ bm k, x = .map bm ∧ w.heap[c.ρ bm]? = some (.map es.toArray k)) ∧ (Instr.findKey kt (k.conc σ c) es).run P w = .ok (r.map fun q => (q.1, q.2.conc σ c)) w) ∧ (∀ q, r = some q → q.2.all c.L) := by
            intro R
            split at hr
            · cases hr
              refine ⟨⟨[], .inl ⟨rfl, rfl⟩, ?_⟩, fun q hq => by cases hq⟩
              have := findA_run (σ := σ) (c := c) (es := []) hp hk R rfl (by simp)
              exact this
            · rename_i bm
              split at hr
              · rename_i es hg
                have ho := R.obj bm _ hx hg
                simp only [Obj.is] at ho
                have hcl := R.closed bm _ hx hg
                refine ⟨⟨entriesOf σ c es, .inr ⟨bm, _, rfl, ho⟩, findA_run hp hk R hr fun x hx => (hcl x hx).1⟩, fun q hq => ?_⟩
                subst hq; exact (findA_all hr hcl).1
              · cases hr
            · cases hr
          have hvr : Rel σ P gv c h nx w → (match r.map (fun q => (q.1, q.2.conc σ c)) with
              | some (_, v) => pure (v, true)
              | none => do pure (← zeroValue el, false) : Sem (Value × Bool)).run P w = .ok (v.conc σ c, b) w ∧ v.all c.L := by
            intro R
            obtain ⟨_, hall⟩ := main R
            split at hv
            · rename_i i v'
              cases hv
              exact ⟨rfl, hall _ rfl⟩
            · split at hv
              · rename_i i hi
                split at hv
                · rename_i z hz
                  split at hv
                  · rename_i a ha
                    cases hv
                    obtain ⟨a1, a2⟩ := ofVal_ok ha
                    refine ⟨?_, a2 _⟩
                    simp only [Option.map_none, Sem.run_bind, run_zeroValue hi hz, Result.andThen_ok, Sem.run_pure, a1]
                  · cases hv
                · cases hv
              · cases hv
          have fin : ∀ r : Option (Nat × AV), (match r.map (fun q => (q.1, q.2.conc σ c)) with
              | some (_, v) => pure (v, true)
              | none => do pure (← zeroValue el, false) : Sem (Value × Bool)).run P w = .ok (v.conc σ c, b) w →
              (match r.map (fun q => (q.1, q.2.conc σ c)) with
              | some (_, v) => do
                let x ← pure (v, true)
                pure (if ok = true then Value.tuple #[x.1, Value.bool x.2] else x.1)
              | none => do
                let z ← zeroValue el
                let x ← pure (z, false)
                pure (if ok = true then Value.tuple #[x.1, Value.bool x.2] else x.1) : Sem Value).run P w = .ok (if ok = true then .tuple #[v.conc σ c, .bool b] else v.conc σ c) w := by
            intro r hv0
            cases r with
            | some q =>
              simp only [Option.map_some, Sem.run_pure, Result.ok.injEq, Prod.mk.injEq, and_true] at hv0
              obtain ⟨h1, h2⟩ := hv0
              simp only [Option.map_some, Sem.run_bind, Sem.run_pure, Result.andThen_ok, h1, ← h2]
            | none =>
              simp only [Option.map_none, Sem.run_bind, Sem.run_pure] at hv0 ⊢
              cases hq : Sem.run P (zeroValue el) w with
              | ok a w2 =>
                rw [hq] at hv0
                simp only [Result.andThen_ok, Result.ok.injEq, Prod.mk.injEq] at hv0
                obtain ⟨⟨h1, h2⟩, h3⟩ := hv0
                simp only [Result.andThen_ok, h1, h3, ← h2]
              | halt x w2 => rw [hq] at hv0; simp at hv0
          have run : Rel σ P gv c h nx w → (Instr.lookup t (x.conc σ c) (k.conc σ c) ok).run P w = .ok (if ok then .tuple #[v.conc σ c, .bool b] else v.conc σ c) w := by
            intro R
            obtain ⟨⟨es, e1, e2⟩, _⟩ := main R
            have hc0 := run_checkKey hp es.toArray.isEmpty 9999 (k.conc σ c) w
            have hv0 := (hvr R).1
            rcases e1 with ⟨rfl, rfl⟩ | ⟨bm, kk, rfl, ho⟩
            · unfold Instr.lookup
              simp only [Sem.run_bind, run_underlying hu, Result.andThen_ok, AV.conc, Sem.run_pure]
              rw [show (#[] : Array MapEntry).isEmpty = ([] : List MapEntry).toArray.isEmpty from rfl, hc0]
              simp only [Result.andThen_ok]
              rw [e2]
              simp only [Result.andThen_ok]
              exact fin r hv0
            · unfold Instr.lookup
              simp only [Sem.run_bind, run_underlying hu, Result.andThen_ok, AV.conc, run_getObj_map ho, Sem.run_pure, hc0, List.toList_toArray, e2]
              exact fin r hv0
          split
          · intro R
            exact ⟨by rw [run R]; simp [AV.conc, AV.concL], ⟨(hvr R).2, trivial, trivial⟩⟩
          · intro R
            exact ⟨by rw [run R]; simp, (hvr R).2⟩
        · trivial
      · trivial

/-- Is a text among some? -/
def memB (n c : Nat) : List (Nat × Nat) → Bool
  | [] => false
  | q :: l => match strEq n c q.1 q.2 with
    | true => true
    | false => memB n c l

theorem memB_iff (n c : Nat) : ∀ l : List (Nat × Nat), memB n c l = true ↔ ∃ q ∈ l, textOf n c = textOf q.1 q.2
  | [] => by simp [memB]
  | q :: l => by
    rw [memB]
    have ht : strEq n c q.1 q.2 = true ↔ textOf n c = textOf q.1 q.2 := by
      rw [← strEq_eq, beq_iff_eq]
      constructor
      · intro h; unfold textOf; rw [h]
      · intro h
        have := congrArg (fun t : ByteArray => t.data.toList) h
        simpa [textOf] using this
    cases h : strEq n c q.1 q.2 with
    | true => simp only [true_iff]; exact ⟨q, List.mem_cons_self, ht.1 h⟩
    | false =>
      rw [memB_iff n c l]
      constructor
      · rintro ⟨q', h1, h2⟩; exact ⟨q', List.mem_cons_of_mem _ h1, h2⟩
      · rintro ⟨q', h1, h2⟩
        rcases List.mem_cons.1 h1 with rfl | h1
        · rw [ht.2 h2] at h; cases h
        · exact ⟨q', h1, h2⟩

/-- What a map has at a key; of a map of texts whose order is open, too. -/
def evLook (P : Program) (t : TypeId) (x k : AV) (ok : Bool) (h : Tr Obj) : Option AV :=
  match x with
  | .map b => match h.get b with
    | some (.bag ks) => match P.underlying t, k with
      | some (.map kt el), .str n c => match P.underlying kt with
        | some .string => match memB n c ks with
          | true => match ok with
            | true => some (.tup [.bool true, .bool true])
            | false => some (.bool true)
          | false => match P.info? el with
            | some i => match i.zero with
              | some z => match ofVal z with
                | some a => match ok with
                  | true => some (.tup [a, .bool false])
                  | false => some a
                | none => none
              | none => none
            | none => none
        | _ => none
      | _, _ => none
    | _ => evLookup P t x k ok h
  | _ => evLookup P t x k ok h

theorem OpPure.of {s : Sem Value} {o : Option AV} (h0 : ∀ v, o = some v → Rel σ P gv c h nx w → s.run P w = .ok (v.conc σ c) w ∧ v.all c.L) : OpPure σ P gv s c h nx w o := by
  cases o with
  | none => trivial
  | some v => exact h0 v rfl

theorem text_beq (a b : ByteArray) : (a == b) = true ↔ a = b := by
  rw [beq_toListBytes, beq_iff_eq, ByteArray.toList_eq, ByteArray.toList_eq]
  obtain ⟨⟨x⟩⟩ := a
  obtain ⟨⟨y⟩⟩ := b
  constructor
  · intro h
    have h : x = y := h
    rw [h]
  · intro h; cases h; rfl

theorem findNow_bag {n c0 : Nat} : ∀ {l : List MapEntry} (i : Nat), (∀ e ∈ l, ∃ s, e.key = .string s) →
    ∃ r, Instr.findNow .string (.string (textOf n c0)) l i = some r ∧ ((∃ e ∈ l, e.key = .string (textOf n c0)) ↔ r.isSome = true) ∧ ∀ q, r = some q → ∃ e ∈ l, q.2 = e.val
  | [], i, _ => ⟨none, rfl, by simp, by simp⟩
  | e :: l, i, hl => by
    obtain ⟨s, hs⟩ := hl e List.mem_cons_self
    obtain ⟨r, h1, h2, h3⟩ := findNow_bag (n := n) (c0 := c0) (l := l) (i + 1) fun e he => hl e (List.mem_cons_of_mem _ he)
    rw [Instr.findNow]
    simp only [hs, Instr.sameNow]
    cases hb : (textOf n c0 == s) with
    | true =>
      have : textOf n c0 = s := (text_beq _ _).1 hb
      refine ⟨some (i, e.val), rfl, ?_, ?_⟩
      · simp only [Option.isSome_some, iff_true]
        exact ⟨e, List.mem_cons_self, by rw [hs, this]⟩
      · rintro q hq; cases hq; exact ⟨e, List.mem_cons_self, rfl⟩
    | false =>
      have hne : textOf n c0 ≠ s := fun e => by rw [(text_beq _ _).2 e] at hb; cases hb
      refine ⟨r, h1, ?_, ?_⟩
      · rw [← h2]
        constructor
        · rintro ⟨e', h4, h5⟩
          rcases List.mem_cons.1 h4 with rfl | h4
          · rw [hs] at h5; cases h5; exact absurd rfl hne
          · exact ⟨e', h4, h5⟩
        · rintro ⟨e', h4, h5⟩; exact ⟨e', List.mem_cons_of_mem _ h4, h5⟩
      · intro q hq
        obtain ⟨e', h4, h5⟩ := h3 q hq
        exact ⟨e', List.mem_cons_of_mem _ h4, h5⟩

theorem evLook_ok (t : TypeId) (x k : AV) (ok : Bool) (hx : x.all c.L) (hk : k.all c.L) : OpPure σ P gv (Instr.lookup t (x.conc σ c) (k.conc σ c) ok) c h nx w (evLook P t x k ok h) := by
  unfold evLook
  split
  · rename_i b
    split
    · rename_i ks hg
      split
      · rename_i kt el n c0 hu
        split
        · rename_i hkt
          refine OpPure.of fun v he R => ?_
          obtain ⟨l, clock, ho, B⟩ := R.obj b _ hx hg
          have hp : plainKey P kt = true := by unfold plainKey; rw [hkt]
          have hc0 := run_checkKey hp l.toArray.isEmpty 9999 (.string (textOf n c0)) w
          obtain ⟨r, f1, f2, f3⟩ := findNow_bag (n := n) (c0 := c0) (l := l) 0 fun e he => by
            obtain ⟨q, _, h1⟩ := B.keys e he; exact ⟨_, h1⟩
          have hfind : (Instr.findKey kt (.string (textOf n c0)) l).run P w = .ok r w := by
            simp only [Instr.findKey, Sem.run_bind, run_underlying hkt, Result.andThen_ok, f1]
            rfl
          have hmem : memB n c0 ks = true ↔ r.isSome = true := by
            rw [← f2, memB_iff]
            constructor
            · rintro ⟨q, h1, h2⟩
              obtain ⟨e, h3, h4⟩ := B.all q h1
              exact ⟨e, h3, by rw [h4, h2]⟩
            · rintro ⟨e, h1, h2⟩
              obtain ⟨q, h3, h4⟩ := B.keys e h1
              rw [h2] at h4
              exact ⟨q, h3, Value.string.inj h4⟩
          have hlook : ∀ (v : Value) (bb : Bool), (match r with | some (_, v) => pure (v, true) | none => do pure (← zeroValue el, false) : Sem (Value × Bool)).run P w = .ok (v, bb) w →
              (Instr.lookup t (.map (some (c.ρ b))) (.string (textOf n c0)) ok).run P w = .ok (if ok then .tuple #[v, .bool bb] else v) w := by
            intro v bb hv
            unfold Instr.lookup
            simp only [Sem.run_bind, run_underlying hu, Result.andThen_ok, run_getObj_map ho, Sem.run_pure, hc0, List.toList_toArray, hfind]
            cases r with
            | some q =>
              simp only [Sem.run_pure, Result.ok.injEq, Prod.mk.injEq, and_true] at hv
              obtain ⟨h1, h2⟩ := hv
              simp only [Sem.run_bind, Sem.run_pure, Result.andThen_ok, h1, ← h2]
            | none =>
              simp only [Sem.run_bind, Sem.run_pure] at hv ⊢
              cases hq : Sem.run P (zeroValue el) w with
              | ok a w2 =>
                rw [hq] at hv
                simp only [Result.andThen_ok, Result.ok.injEq, Prod.mk.injEq] at hv
                obtain ⟨⟨h1, h2⟩, h3⟩ := hv
                simp only [Result.andThen_ok, h1, h3, ← h2]
              | halt x w2 => rw [hq] at hv; simp at hv
          cases hm : memB n c0 ks with
          | true =>
            have := hmem.1 hm
            cases r with
            | none => cases this
            | some q =>
              obtain ⟨e, h1, h2⟩ := f3 q rfl
              have hv := hlook (.bool true) true (by simp only [Sem.run_pure, h2, B.vals e h1])
              rw [hm] at he
              cases ok <;> cases he
              · exact ⟨hv, trivial⟩
              · exact ⟨hv, trivial, trivial, trivial⟩
          | false =>
            have : r = none := by
              cases r with
              | none => rfl
              | some q => rw [hmem.2 rfl] at hm; cases hm
            subst this
            rw [hm] at he; simp only at he
            split at he
            · rename_i i hi
              split at he
              · rename_i z hz
                split at he
                · rename_i a haz
                  obtain ⟨a1, a2⟩ := ofVal_ok haz
                  have hv := hlook z false (by simp only [Sem.run_bind, run_zeroValue hi hz, Result.andThen_ok, Sem.run_pure])
                  rw [← a1 σ c] at hv
                  cases ok <;> cases he
                  · exact ⟨hv, a2 _⟩
                  · exact ⟨hv, a2 _, trivial, trivial⟩
                · cases he
              · cases he
            · cases he
        · trivial
      · trivial
    · exact evLookup_ok t _ k ok hx hk
  · exact evLookup_ok t x k ok hx hk

end
end
end Go.Ev
