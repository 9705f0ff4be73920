/- Tests and sums of two values. -/
import Derived.Test.YteijaoaiiddcgaaGreatDoorEvOps2
namespace Go.Ev
open Go

noncomputable section

def Pos.eq (p : Pos) : Pos → Bool :=
  Pos.rec (motive := fun _ => Pos → Bool) (fun q => Pos.rec (motive := fun _ => Bool) true (fun _ _ => false) (fun _ _ => false) q)
    (fun _ ih q => Pos.rec (motive := fun _ => Bool) false (fun q _ => ih q) (fun _ _ => false) q)
    (fun _ ih q => Pos.rec (motive := fun _ => Bool) false (fun _ _ => false) (fun q _ => ih q) q) p

theorem Pos.eq_iff : ∀ p q : Pos, Pos.eq p q = true ↔ p = q
  | .h, .h => by simp [Pos.eq]
  | .h, .o _ => by simp [Pos.eq]
  | .h, .i _ => by simp [Pos.eq]
  | .o _, .h => by simp [Pos.eq]
  | .o p, .o q => by
    have := Pos.eq_iff p q
    simpa [Pos.eq] using this
  | .o _, .i _ => by simp [Pos.eq]
  | .i _, .h => by simp [Pos.eq]
  | .i _, .o _ => by simp [Pos.eq]
  | .i p, .i q => by
    have := Pos.eq_iff p q
    simpa [Pos.eq] using this

section
variable {σ : Nat → Value} {P : Program} {gv : Nat → Option Pos} {c : Cx} {h : Tr Obj} {nx : Pos} {w : World}

/-- The fields of two structs are the same. -/
def evEqF (P : Program) (xs ys : List AV) : List Field → Option Bool
  | [] => some true
  | f :: fs => match decide (f.name ≠ "_"), P.underlying f.type, nthN f.offset xs, nthN f.offset ys with
    | true, some (.int _), some (.int k u), some (.int k' v) => match decide (k = k'), Nat.beq (ordN k u) (ordN k v) with
      | true, true => evEqF P xs ys fs
      | true, false => some false
      | _, _ => none
    | true, some .string, some (.str n x), some (.str m y) => match strEq n x m y with
      | true => evEqF P xs ys fs
      | false => some false
    | true, some .bool, some (.bool a), some (.bool b) => match a, b with
      | true, true => evEqF P xs ys fs
      | false, false => evEqF P xs ys fs
      | _, _ => some false
    | _, _, _, _ => none

theorem run_part_scalar {t : TypeId} {d : TypeDesc} (hu : P.underlying t = some d) (hd : isAggT P t = some false) {l : List AV} {off : Nat} {v : AV} (hv : nthN off l = some v) (w : World) :
    (part t (AV.concL σ c l).toArray off).run P w = .ok (v.conc σ c) w := by
  rw [nthN_eq] at hv
  have : (AV.concL σ c l).toArray[off]? = some (v.conc σ c) := by
    rw [AV.concL_map, List.getElem?_toArray, List.getElem?_map, hv]; rfl
  simp only [part, Sem.run_bind, run_isAgg hd, Result.andThen_ok, Bool.false_eq_true, if_false, this, Sem.run_pure]

theorem beq_wrap (k : IntKind) (u v : Nat) : (k.wrap (u : Int) == k.wrap (v : Int)) = Nat.beq (ordN k u) (ordN k v) := by
  rw [Bool.eq_iff_iff, beq_iff_eq, ordN_inj, Nat.beq_eq]

theorem evEqF_ok (d : Nat) (xs ys : List AV) (w : World) : ∀ (fs : List Field) (b : Bool), evEqF P xs ys fs = some b →
    (Op.eqFields (d + 1) (AV.concL σ c xs).toArray (AV.concL σ c ys).toArray fs).run P w = .ok b w
  | [], b, h => by cases h; rfl
  | f :: fs, b, h => by
    rw [evEqF] at h
    split at h
    · rename_i k u k' v hn hu hx hy
      have hn := of_decide_eq_true hn
      have hag : isAggT P f.type = some false := by unfold isAggT; rw [hu]
      have e1 := run_part_scalar (σ := σ) (c := c) hu hag hx w
      have e2 := run_part_scalar (σ := σ) (c := c) hu hag hy w
      simp only [AV.conc] at e1 e2
      split at h
      · rename_i hk hb
        have hk := of_decide_eq_true hk
        subst hk
        simp only [Op.eqFields, if_pos hn, Sem.run_bind, e1, e2, Result.andThen_ok, run_equalIn_int w d f.type _ _ _ _ hu, beq_wrap, hb, Bool.not_true, Bool.false_eq_true, if_false]
        exact evEqF_ok d xs ys w fs b h
      · rename_i hk hb
        have hk := of_decide_eq_true hk
        subst hk
        cases h
        simp only [Op.eqFields, if_pos hn, Sem.run_bind, e1, e2, Result.andThen_ok, run_equalIn_int w d f.type _ _ _ _ hu, beq_wrap, hb, Bool.not_false, if_true, Sem.run_pure]
      · cases h
    · rename_i n x m y hn hu hx hy
      have hn := of_decide_eq_true hn
      have hag : isAggT P f.type = some false := by unfold isAggT; rw [hu]
      have e1 := run_part_scalar (σ := σ) (c := c) hu hag hx w
      have e2 := run_part_scalar (σ := σ) (c := c) hu hag hy w
      simp only [AV.conc] at e1 e2
      split at h
      · rename_i hb
        simp only [Op.eqFields, if_pos hn, Sem.run_bind, e1, e2, Result.andThen_ok, run_equalIn_string w d f.type _ _ hu, textOf_toList, strEq_eq, hb, Bool.not_true, Bool.false_eq_true, if_false]
        exact evEqF_ok d xs ys w fs b h
      · rename_i hb
        cases h
        simp only [Op.eqFields, if_pos hn, Sem.run_bind, e1, e2, Result.andThen_ok, run_equalIn_string w d f.type _ _ hu, textOf_toList, strEq_eq, hb, Bool.not_false, if_true, Sem.run_pure]
    · rename_i a b' hn hu hx hy
      have hn := of_decide_eq_true hn
      have hag : isAggT P f.type = some false := by unfold isAggT; rw [hu]
      have e1 := run_part_scalar (σ := σ) (c := c) hu hag hx w
      have e2 := run_part_scalar (σ := σ) (c := c) hu hag hy w
      simp only [AV.conc] at e1 e2
      have key : (a == b') = true ∧ evEqF P xs ys fs = some b ∨ (a == b') = false ∧ b = false := by
        cases a <;> cases b' <;> simp at h ⊢ <;> first | exact h | exact h.symm
      rcases key with ⟨hb, h⟩ | ⟨hb, rfl⟩
      · simp only [Op.eqFields, if_pos hn, Sem.run_bind, e1, e2, Result.andThen_ok, run_equalIn_bool' w d f.type _ _ hu, hb, Bool.not_true, Bool.false_eq_true, if_false]
        exact evEqF_ok d xs ys w fs b h
      · simp only [Op.eqFields, if_pos hn, Sem.run_bind, e1, e2, Result.andThen_ok, run_equalIn_bool' w d f.type _ _ hu, hb, Bool.not_false, if_true, Sem.run_pure]
    · cases h

/-- 'x == y'. -/
def evEq (P : Program) (t : TypeId) (cst : Bool) (x y : AV) (h : Tr Obj) : Option Bool :=
  match x with
  | .bool a => match y with
    | .bool b => match P.underlying t with
      | some .bool => some (a == b)
      | _ => none
    | _ => none
  | .nilp => match P.underlying t, y with
    | some (.pointer _), .nilp => some true
    | some (.pointer _), .ptr _ _ => some false
    | _, _ => none
  | .ptr b off => match P.underlying t with
    | some (.pointer e) => match y with
      | .nilp => some false
      | .ptr b' off' => match P.info? e, Nat.beq (P.cellsOf e) 0 with
        | some _, false => match Pos.eq b b' with
          | true => some (Nat.beq off off')
          | false => match h.get b, h.get b' with
            | some (.row _ _ _ _ true), some (.row _ _ _ _ true) => some false
            | _, _ => none
        | _, _ => none
      | _ => none
    | _ => none
  | .nils => match P.underlying t, y with
    | some (.slice _), .nils => some true
    | some (.slice _), .slice _ _ _ _ => some false
    | some (.slice _), .sliceU _ _ _ _ => some false
    | _, _ => none
  | .slice _ _ _ _ => match P.underlying t, y with
    | some (.slice _), .nils => some false
    | _, _ => none
  | .sliceU _ _ _ _ => match P.underlying t, y with
    | some (.slice _), .nils => some false
    | _, _ => none
  | .nilm => match P.underlying t, y with
    | some (.map _ _), .nilm => some true
    | some (.map _ _), .map _ => some false
    | _, _ => none
  | .map _ => match P.underlying t, y with
    | some (.map _ _), .nilm => some false
    | _, _ => none
  | .nilf => match P.underlying t, y with
    | some (.func _ _ _), .nilf => some true
    | some (.func _ _ _), .func _ _ _ => some false
    | _, _ => none
  | .func _ _ _ => match P.underlying t, y with
    | some (.func _ _ _), .nilf => some false
    | _, _ => none
  | .nili => match P.underlying t, y with
    | some (.interface _), .nili => match cst with
      | true => some true
      | false => none
    | some (.interface _), .iface _ _ => some false
    | _, _ => none
  | .iface _ _ => match P.underlying t, y with
    | some (.interface _), .nili => some false
    | _, _ => none
  | .agg xs => match y with
    | .agg ys => match P.underlying t with
      | some (.struct fs) => match P.stoodInHeld t, P.eqGuardType P.depth t with
        | false, false => evEqF P xs ys fs.toList
        | _, _ => none
      | _ => none
    | _ => none
  | _ => none

theorem guard_ok (op : BinOp) (t : TypeId) (xo yo : Operand) (a b : Value) (hab : (match a, b with | .nilIface, .nilIface => false | .agg _, .agg _ => false | _, _ => true) = true) (w : World) :
    (eqGuard op t xo yo a b).run P w = .ok () w := by
  cases op
  all_goals simp only [eqGuard, Bool.not_true, Bool.not_false, Bool.false_eq_true, if_true, if_false]
  all_goals first
    | rfl
    | (split <;> first | (simp at hab; done) | rfl)

/-- One of the values that are nil, or not. -/
inductive NilCase (P : Program) (t : TypeId) : Value → Value → Bool → Prop where
  | p0 (e) (h : P.underlying t = some (.pointer e)) : NilCase P t (.pointer none) (.pointer none) true
  | p1 (e a) (h : P.underlying t = some (.pointer e)) : NilCase P t (.pointer none) (.pointer (some a)) false
  | p2 (e a) (h : P.underlying t = some (.pointer e)) : NilCase P t (.pointer (some a)) (.pointer none) false
  | s0 (e) (h : P.underlying t = some (.slice e)) : NilCase P t (.slice none 0 0) (.slice none 0 0) true
  | s1 (e a l k) (h : P.underlying t = some (.slice e)) : NilCase P t (.slice none 0 0) (.slice (some a) l k) false
  | s2 (e a l k) (h : P.underlying t = some (.slice e)) : NilCase P t (.slice (some a) l k) (.slice none 0 0) false
  | m0 (e f) (h : P.underlying t = some (.map e f)) : NilCase P t (.map none) (.map none) true
  | m1 (e f a) (h : P.underlying t = some (.map e f)) : NilCase P t (.map none) (.map (some a)) false
  | m2 (e f a) (h : P.underlying t = some (.map e f)) : NilCase P t (.map (some a)) (.map none) false
  | f0 (e f g) (h : P.underlying t = some (.func e f g)) : NilCase P t .nilFunc .nilFunc true
  | f1 (e f g a x y) (h : P.underlying t = some (.func e f g)) : NilCase P t .nilFunc (.func a x y) false
  | f2 (e f g a x y) (h : P.underlying t = some (.func e f g)) : NilCase P t (.func a x y) .nilFunc false
  | i1 (e a x) (h : P.underlying t = some (.interface e)) : NilCase P t .nilIface (.iface a x) false
  | i2 (e a x) (h : P.underlying t = some (.interface e)) : NilCase P t (.iface a x) .nilIface false

theorem NilCase.run {t : TypeId} {x y : Value} {b : Bool} (hc : NilCase P t x y b) (d : Nat) (w : World) : (Op.equalIn (d + 1) t x y).run P w = .ok b w := by
  cases hc <;> (rename_i hu; simp [Op.equalIn, run_underlying hu])

theorem NilCase.guard {t : TypeId} {x y : Value} {b : Bool} (hc : NilCase P t x y b) (op : BinOp) (xo yo : Operand) (w : World) : (eqGuard op t xo yo x y).run P w = .ok () w := by
  cases hc <;> exact guard_ok op t xo yo _ _ rfl w

theorem run_equalIn_nili (t : TypeId) (d : Nat) (ms : Array (String × TypeId)) (hu : P.underlying t = some (.interface ms)) (w : World) : (Op.equalIn (d + 1) t .nilIface .nilIface).run P w = .ok true w := by
  simp [Op.equalIn, run_underlying hu]

theorem run_equalIn_ptr (t e : TypeId) (d : Nat) (hu : P.underlying t = some (.pointer e)) (i : TypeInfo) (hi : P.info? e = some i) (hz : P.cellsOf e ≠ 0) (a b : Addr) (w : World) :
    (Op.equalIn (d + 1) t (.pointer (some a)) (.pointer (some b))).run P w = (sameAddr a b).run P w := by
  simp only [Op.equalIn, Sem.run_bind, run_underlying hu, Result.andThen_ok, run_sizeOf _ hi, ne_eq, hz, not_false_eq_true, if_true]

def cstOf (x y : Operand) : Bool := match x with
  | .const _ => true
  | _ => match y with
    | .const _ => true
    | _ => false

theorem run_sameAddr_far (R : Rel σ P gv c h nx w) {b b' : Pos} (hb : c.L b) (hb' : c.L b') (hne : b ≠ b') {e1 e2 : TypeId} {r1 r2 : Row} {t1 t2 : Bool} {f1 f2 : Nat}
    (h1 : h.get b = some (.row e1 r1 t1 f1 true)) (h2 : h.get b' = some (.row e2 r2 t2 f2 true)) (o1 o2 : Nat) :
    (sameAddr ⟨c.ρ b, o1, none⟩ ⟨c.ρ b', o2, none⟩).run P w = .ok false w := by
  have hρ : c.ρ b ≠ c.ρ b' := fun e => hne (R.inj b b' _ _ hb hb' h1 h2 rfl rfl e)
  obtain ⟨rest1, fz1, g1, _, p1, _⟩ := R.obj b _ hb h1
  obtain ⟨rest2, fz2, g2, _, p2, _⟩ := R.obj b' _ hb' h2
  obtain rfl := p1 rfl
  obtain rfl := p2 rfl
  have hf : ∀ o, w.frozen? ⟨c.ρ b, o, none⟩ = false := fun o => by simp [World.frozen?, g1]
  have hf2 : ∀ o, w.frozen? ⟨c.ρ b', o, none⟩ = false := fun o => by simp [World.frozen?, g2]
  have hs1 : ∃ x, w.shape? (c.ρ b) = some x := ⟨_, by simp only [World.shape?, g1]; rfl⟩
  have hs2 : ∃ x, w.shape? (c.ρ b') = some x := ⟨_, by simp only [World.shape?, g2]; rfl⟩
  obtain ⟨x1, hs1⟩ := hs1
  obtain ⟨x2, hs2⟩ := hs2
  obtain ⟨x1a, x1b⟩ := x1
  obtain ⟨x2a, x2b⟩ := x2
  simp [sameAddr, hρ, hf, hf2, noView, viewAt, hs1, hs2, mayBeOne, stringish]

theorem evEq_ok (t : TypeId) (xo yo : Operand) (x y : AV) (hx : x.all c.L) (hy : y.all c.L) (b : Bool) (he : evEq P t (cstOf xo yo) x y h = some b) (R : Rel σ P gv c h nx w) (op : BinOp) :
    (eqGuard op t xo yo (x.conc σ c) (y.conc σ c)).run P w = .ok () w ∧ (Op.equal t (x.conc σ c) (y.conc σ c)).run P w = .ok b w := by
  have gd : ∀ a b : Value, (match a, b with | .nilIface, .nilIface => false | .agg _, .agg _ => false | _, _ => true) = true → (eqGuard op t xo yo a b).run P w = .ok () w :=
    fun a b hab => guard_ok op t xo yo a b hab w
  have nc : NilCase P t (x.conc σ c) (y.conc σ c) b → (eqGuard op t xo yo (x.conc σ c) (y.conc σ c)).run P w = .ok () w ∧ (Op.equal t (x.conc σ c) (y.conc σ c)).run P w = .ok b w :=
    fun hc => ⟨hc.guard op xo yo w, hc.run 9999 w⟩
  cases x <;> simp only [evEq, reduceCtorEq] at he
  case bool a =>
    cases y <;> simp only [reduceCtorEq] at he
    case bool b' =>
      split at he
      · rename_i hu
        cases he
        exact ⟨gd _ _ rfl, run_equal_bool w t a b' hu⟩
      · cases he
  case nilp =>
    split at he
    · rename_i e hu; cases he; exact nc (.p0 e hu)
    · rename_i e _ _ hu; cases he; exact nc (.p1 e _ hu)
    · cases he
  case ptr b1 off1 =>
    split at he
    · rename_i e hu
      split at he
      · cases he; exact nc (.p2 e _ hu)
      · rename_i b2 off2
        split at he
        · rename_i ie hi hz
          have hz := Nat.ne_of_beq_eq_false hz
          split at he
          · rename_i hp
            rw [Pos.eq_iff] at hp
            subst hp
            cases he
            refine ⟨gd _ _ rfl, ?_⟩
            show (Op.equalIn (9999 + 1) t _ _).run P w = _
            simp only [AV.conc]
            rw [run_equalIn_ptr t e 9999 hu ie hi hz]
            simp [sameAddr]
            rw [Bool.eq_iff_iff]
            simp
          · rename_i hp
            have hne : b1 ≠ b2 := fun e => by rw [(Pos.eq_iff b1 b2).2 e] at hp; cases hp
            split at he
            · rename_i e1 r1 t1 f1 e2 r2 t2 f2 h1 h2
              cases he
              refine ⟨gd _ _ rfl, ?_⟩
              show (Op.equalIn (9999 + 1) t _ _).run P w = _
              simp only [AV.conc]
              rw [run_equalIn_ptr t e 9999 hu ie hi hz]
              exact run_sameAddr_far R hx hy hne h1 h2 off1 off2
            · cases he
        · cases he
      · cases he
    · cases he
  case nils =>
    split at he
    · rename_i e hu; cases he; exact nc (.s0 e hu)
    · rename_i e _ _ _ _ hu; cases he; exact nc (.s1 e _ _ _ hu)
    · rename_i e _ _ _ _ hu; cases he; exact nc (.s1 e _ _ _ hu)
    · cases he
  case slice =>
    split at he
    · rename_i e hu; cases he; exact nc (.s2 e _ _ _ hu)
    · cases he
  case sliceU =>
    split at he
    · rename_i e hu; cases he; exact nc (.s2 e _ _ _ hu)
    · cases he
  case nilm =>
    split at he
    · rename_i e f hu; cases he; exact nc (.m0 e f hu)
    · rename_i e f _ hu; cases he; exact nc (.m1 e f _ hu)
    · cases he
  case map =>
    split at he
    · rename_i e f hu; cases he; exact nc (.m2 e f _ hu)
    · cases he
  case nilf =>
    split at he
    · rename_i e f g hu; cases he; exact nc (.f0 e f g hu)
    · rename_i e f g _ _ _ hu; cases he; exact nc (.f1 e f g _ _ _ hu)
    · cases he
  case func =>
    split at he
    · rename_i e f g hu; cases he; exact nc (.f2 e f g _ _ _ hu)
    · cases he
  case agg xs =>
    cases y <;> simp only [reduceCtorEq] at he
    case agg ys =>
      split at he
      · rename_i fs hu
        split at he
        · rename_i hst hg
          have hf : P.fieldsOf t = fs := by simp [Program.fieldsOf, hu]
          refine ⟨run_eqGuard_agg w op t xo yo _ _ hg, ?_⟩
          show (Op.equalIn (9999 + 1) t _ _).run P w = _
          simp only [AV.conc]
          rw [run_equalIn_struct w 9999 t _ _ (by rw [hf]; exact hu) hst, hf]
          exact evEqF_ok 9998 xs ys w fs.toList b he
        · cases he
      · cases he
  case nili =>
    split at he
    · rename_i ms hu
      split at he
      · rename_i hc
        cases he
        refine ⟨?_, run_equalIn_nili t 9999 ms hu w⟩
        simp only [AV.conc]
        cases xo <;> cases yo <;> first | (simp [cstOf] at hc; done) | (cases op <;> rfl)
      · cases he
    · rename_i ms _ _ hu; cases he; exact nc (.i1 ms _ _ hu)
    · cases he
  case iface =>
    split at he
    · rename_i ms hu; cases he; exact nc (.i2 ms _ _ hu)
    · cases he

def evEqs (P : Program) (op : BinOp) (t : TypeId) (cst : Bool) (x y : AV) (h : Tr Obj) : Option AV :=
  match op with
  | .eql => match evEq P t cst x y h with
    | some b => some (.bool b)
    | none => none
  | .neq => match evEq P t cst x y h with
    | some b => some (.bool (!b))
    | none => none
  | _ => none

def evBin (P : Program) (op : BinOp) (t : TypeId) (cst : Bool) (x y : AV) (h : Tr Obj) : Option AV :=
  match x with
  | .int k u => match y with
    | .int k' v => match op with
      | .shl => shInt .shl k u k' v
      | .shr => shInt .shr k u k' v
      | op => match decide (k = k') with
        | true => binInt op k u v
        | false => none
    | _ => none
  | .str n a => match y with
    | .str m b => binStr op n a m b
    | _ => none
  | x => evEqs P op t cst x y h

theorem evBin_ok (op : BinOp) (t : TypeId) (xo yo : Operand) (x y : AV) (hx : x.all c.L) (hy : y.all c.L) :
    OpPure σ P gv (do eqGuard op t xo yo (x.conc σ c) (y.conc σ c); binOp op t (x.conc σ c) (y.conc σ c)) c h nx w (evBin P op t (cstOf xo yo) x y h) := by
  have gd : ∀ a b : Value, (match a, b with | .nilIface, .nilIface => false | .agg _, .agg _ => false | _, _ => true) = true → (eqGuard op t xo yo a b).run P w = .ok () w :=
    fun a b hab => guard_ok op t xo yo a b hab w
  have gen : (∀ k u, x ≠ .int k u) → (∀ n a, x ≠ .str n a) → OpPure σ P gv (do eqGuard op t xo yo (x.conc σ c) (y.conc σ c); binOp op t (x.conc σ c) (y.conc σ c)) c h nx w
      (evEqs P op t (cstOf xo yo) x y h) := by
    intro hni hns
    unfold evEqs
    have hb : ∀ op, (op = .eql ∨ op = .neq) → ∀ b, evEq P t (cstOf xo yo) x y h = some b → binOp op t (x.conc σ c) (y.conc σ c) = (match op with | .eql => do pure (.bool (← Op.equal t (x.conc σ c) (y.conc σ c))) | _ => do pure (.bool (!(← Op.equal t (x.conc σ c) (y.conc σ c))))) := by
      intro op hop b he
      rcases hop with rfl | rfl
      all_goals
        cases x <;> simp only [evEq, reduceCtorEq] at he <;> first
          | exact absurd rfl (hni _ _)
          | exact absurd rfl (hns _ _)
          | (cases y <;> first | rfl | (simp at he; done))
    cases op <;> try trivial
    case eql =>
      cases he : evEq P t (cstOf xo yo) x y h with
      | none => trivial
      | some b =>
        intro R
        obtain ⟨h1, h2⟩ := evEq_ok t xo yo x y hx hy b he R .eql
        refine ⟨?_, trivial⟩
        simp only [Sem.run_bind, h1, Result.andThen_ok, hb .eql (.inl rfl) b he, h2, Sem.run_pure, AV.conc]
    case neq =>
      cases he : evEq P t (cstOf xo yo) x y h with
      | none => trivial
      | some b =>
        intro R
        obtain ⟨h1, h2⟩ := evEq_ok t xo yo x y hx hy b he R .neq
        refine ⟨?_, trivial⟩
        simp only [Sem.run_bind, h1, Result.andThen_ok, hb .neq (.inr rfl) b he, h2, Sem.run_pure, AV.conc]
  cases x <;> try (exact gen (by simp) (by simp))
  case int k u =>
    cases y <;> try trivial
    case int k' v =>
      unfold evBin
      simp only
      split
      · cases e : shInt .shl k u k' v with
        | none => trivial
        | some r =>
          intro R
          obtain ⟨h1, h2⟩ := shInt_ok σ c P w .shl k k' u v r e
          refine ⟨?_, h2 _⟩
          simp only [Sem.run_bind, gd (.int k (k.wrap u)) (.int k' (k'.wrap v)) rfl, AV.conc, Result.andThen_ok, binOp]
          exact h1
      · cases e : shInt .shr k u k' v with
        | none => trivial
        | some r =>
          intro R
          obtain ⟨h1, h2⟩ := shInt_ok σ c P w .shr k k' u v r e
          refine ⟨?_, h2 _⟩
          simp only [Sem.run_bind, gd (.int k (k.wrap u)) (.int k' (k'.wrap v)) rfl, AV.conc, Result.andThen_ok, binOp]
          exact h1
      · rename_i hl hr
        split
        · rename_i hk
          have hk := of_decide_eq_true hk
          subst hk
          cases e : binInt op k u v with
          | none => trivial
          | some r =>
            intro R
            obtain ⟨h1, h2⟩ := binInt_ok σ c P w op k u v r e
            refine ⟨?_, h2 _⟩
            rw [← h1]
            simp only [Sem.run_bind, gd (.int k (k.wrap u)) (.int k (k.wrap v)) rfl, AV.conc, Result.andThen_ok]
            cases op <;> first | (exact absurd rfl hl) | (exact absurd rfl hr) | simp [binOp]
        · trivial
  case str n a =>
    cases y <;> try trivial
    case str m b =>
      show OpPure σ P gv _ c h nx w (binStr op n a m b)
      cases e : binStr op n a m b with
      | none => trivial
      | some r =>
        intro R
        obtain ⟨h1, h2⟩ := binStr_ok σ c P w op n a m b r e
        refine ⟨?_, h2 _⟩
        rw [← h1]
        simp only [Sem.run_bind, gd (.string (textOf n a)) (.string (textOf m b)) rfl, AV.conc, Result.andThen_ok]
        cases op <;> simp [binOp]

end
end
end Go.Ev
