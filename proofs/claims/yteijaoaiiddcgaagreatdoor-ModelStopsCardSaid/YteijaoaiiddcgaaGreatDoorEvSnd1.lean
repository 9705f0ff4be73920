/- All operations, and calls. -/
import Derived.Test.YteijaoaiiddcgaaGreatDoorEvSnd0
namespace Go.Ev
open Go

section
variable {σ : Nat → Value} {P : Program} {gv : Nat → Option Pos} {c : Cx} {h : Tr Obj} {nx : Pos} {w : World}

theorem NextOk.ofQ {ρ : Operand → Value} {o : Oper} {xs : List AV} (hv : Vals σ c ρ o.op.operands.toList xs) (R : Rel σ P gv c h nx w) : NextOk σ P gv (execOp ρ o) c h nx w (Rs.pure h nx (evQ P o xs h)) := by
  cases he : evQ P o xs h with
  | none => trivial
  | some v =>
    obtain ⟨h1, h2⟩ := evQ_ok hv he R
    exact ⟨_, c, w, h1, .inl rfl, R, Ext.refl .., h2⟩

theorem evS_ok {ρ : Operand → Value} {o : Oper} {xs : List AV} (hv : Vals σ c ρ o.op.operands.toList xs) (R : Rel σ P gv c h nx w) : NextOk σ P gv (execOp ρ o) c h nx w (evS P o xs h nx) := by
  unfold evS
  cases hop : o.op <;> simp only <;> first
    | (exact NextOk.ofQ hv R)
    | skip
  case alloc t =>
    have := NextOk.value (evAlloc_ok (σ := σ) (gv := gv) (c := c) t R)
    unfold execOp; rw [hop]; exact this
  case box t x =>
    rw [hop] at hv; simp only [Op.operands] at hv
    obtain ⟨a, y, rfl, h1, h2, h3⟩ := Vals.cons hv
    cases Vals.nil h3
    have := NextOk.value (evBox_ok t a h2 R)
    unfold execOp; rw [hop]; simp only [h1]; exact this
  case buildSlice t n ps =>
    rw [hop] at hv; simp only [Op.operands] at hv
    obtain ⟨h1, h2⟩ := zipP_ok (ps := ps.toList) (xs := xs) (by simpa using hv)
    have := NextOk.value (evBuildSlice_ok t n (zipP ps.toList xs) h2 R)
    have e : (ps.map fun x => (x.1, ρ x.2)) = ((zipP ps.toList xs).map fun q => (q.1, q.2.conc σ c)).toArray := by
      rw [h1]; apply Array.ext'; simp
    unfold execOp
    rw [hop]
    simp only []
    rw [show (ps.map fun (i, x) => (i, ρ x)) = (ps.map fun x => (x.1, ρ x.2)) from rfl, e]
    exact this
  case store t x y =>
    rw [hop] at hv; simp only [Op.operands] at hv
    obtain ⟨a, _, rfl, h1, h2, h3⟩ := Vals.cons hv
    obtain ⟨b, _, rfl, h4, h5, h6⟩ := Vals.cons h3
    cases Vals.nil h6
    have := NextOk.unit (evStore_ok t a b h2 h5 R)
    unfold execOp; rw [hop]; simp only [h1, h4]; exact this
  case convert s d x =>
    rw [hop] at hv; simp only [Op.operands] at hv
    obtain ⟨a, y, rfl, h1, h2, h3⟩ := Vals.cons hv
    cases Vals.nil h3
    have := NextOk.value (evConvert_ok s d a h2 R)
    unfold execOp; rw [hop]; simp only [h1]; exact this
  case makeMap t r =>
    cases r with
    | some _ => trivial
    | none =>
      have := NextOk.value (evMakeMap_ok (σ := σ) (P := P) (gv := gv) (c := c) t R)
      unfold execOp; rw [hop]; simp only [Option.map_none]; exact this
  case mapUpdate t m k x =>
    rw [hop] at hv; simp only [Op.operands] at hv
    obtain ⟨a, _, rfl, h1, h2, h3⟩ := Vals.cons hv
    obtain ⟨b, _, rfl, h4, h5, h6⟩ := Vals.cons h3
    obtain ⟨d, _, rfl, h7, h8, h9⟩ := Vals.cons h6
    cases Vals.nil h9
    have := NextOk.unit (evMapUpdate_ok t a b d h2 h5 h8 R)
    unfold execOp; rw [hop]; simp only [h1, h4, h7]; exact this
  case insert t m k x =>
    rw [hop] at hv; simp only [Op.operands] at hv
    obtain ⟨a, _, rfl, h1, h2, h3⟩ := Vals.cons hv
    obtain ⟨b, _, rfl, h4, h5, h6⟩ := Vals.cons h3
    obtain ⟨d, _, rfl, h7, h8, h9⟩ := Vals.cons h6
    cases Vals.nil h9
    have := NextOk.unit (evMapUpdate_ok t a b d h2 h5 h8 R)
    unfold execOp; rw [hop]; simp only [h1, h4, h7]; exact this
  case range t x =>
    rw [hop] at hv; simp only [Op.operands] at hv
    obtain ⟨a, y, rfl, h1, h2, h3⟩ := Vals.cons hv
    cases Vals.nil h3
    have := NextOk.value (evRange_ok t a h2 R)
    unfold execOp; rw [hop]; simp only [h1]; exact this
  case next x s =>
    rw [hop] at hv; simp only [Op.operands] at hv
    obtain ⟨a, y, rfl, h1, h2, h3⟩ := Vals.cons hv
    cases Vals.nil h3
    cases s with
    | true => trivial
    | false =>
      have := NextOk.value (evNextS_ok a o.type h2 R)
      unfold execOp; rw [hop]; simp only [h1]; exact this

theorem foldM_min {w : World} : ∀ (l : List AV) (a v : AV), foldM false a l = some v → a.all c.L → AV.allL c.L l →
    ((AV.concL σ c l).foldlM Builtin.min2 (a.conc σ c)).run P w = .ok (v.conc σ c) w ∧ v.all c.L
  | [], a, v, he, ha, _ => by cases he; exact ⟨rfl, ha⟩
  | b :: l, a, v, he, ha, hl => by
    rw [foldM] at he
    cases e : evMin2 false a b with
    | none => rw [e] at he; cases he
    | some x =>
      rw [e] at he
      obtain ⟨h1, h2⟩ := evMin2_ok (σ := σ) (c := c) (P := P) e w
      obtain ⟨h3, h4⟩ := foldM_min (w := w) l x v he (h2 _) hl.2
      refine ⟨?_, h4⟩
      rw [AV.concL, List.foldlM_cons]
      simp only [Sem.run_bind, h1, Result.andThen_ok, h3]

theorem foldM_max {w : World} : ∀ (l : List AV) (a v : AV), foldM true a l = some v → a.all c.L → AV.allL c.L l →
    ((AV.concL σ c l).foldlM Builtin.max2 (a.conc σ c)).run P w = .ok (v.conc σ c) w ∧ v.all c.L
  | [], a, v, he, ha, _ => by cases he; exact ⟨rfl, ha⟩
  | b :: l, a, v, he, ha, hl => by
    rw [foldM] at he
    cases e : evMin2 true a b with
    | none => rw [e] at he; cases he
    | some x =>
      rw [e] at he
      obtain ⟨h1, h2⟩ := evMax2_ok (σ := σ) (c := c) (P := P) e w
      obtain ⟨h3, h4⟩ := foldM_max (w := w) l x v he (h2 _) hl.2
      refine ⟨?_, h4⟩
      rw [AV.concL, List.foldlM_cons]
      simp only [Sem.run_bind, h1, Result.andThen_ok, h3]

/-- What a call's operands come to. -/
theorem callVals {ρ : Operand → Value} {cl : Call} {xs : List AV} {b : Builtin} (hb : cl.callee = .builtin b) (hv : Vals σ c ρ (Op.call cl).operands.toList xs) :
    (cl.args.map ρ) = (AV.concL σ c xs).toArray ∧ AV.allL c.L xs := by
  simp only [Op.operands, Call.operands, hb] at hv
  refine ⟨?_, hv.2⟩
  rw [← hv.1]
  apply Array.ext'; simp

theorem run_builtin_value {b : Builtin} {types : Array TypeId} {ty : TypeId} {cs : Array Bool} {args : Array Value} {s : Sem Value} (hs : builtin b types ty cs args = (do pure (.value (← s)))) {r : Rs}
    (ho : OpOk σ P gv s c h nx w r) : NextOk σ P gv (builtin b types ty cs args) c h nx w r := by
  rw [hs]; exact .value ho

theorem evClQ_ok {ρ : Operand → Value} {o : Oper} {cl : Call} (hop : o.op = .call cl) {xs : List AV} {v : AV} (hv : Vals σ c ρ o.op.operands.toList xs) (he : evClQ P cl xs h = some v) (R : Rel σ P gv c h nx w) :
    (execOp ρ o).run P w = .ok (.value (v.conc σ c)) w ∧ v.all c.L := by
  rw [hop] at hv
  unfold evClQ at he
  cases hcal : cl.callee with
  | value f => rw [hcal] at he; cases he
  | invoke r m => rw [hcal] at he; cases he
  | builtin b =>
    rw [hcal] at he
    obtain ⟨h1, h2⟩ := callVals hcal hv
    have hex : execOp ρ o = builtin b cl.argTypes o.type (cl.args.map fun | .const _ => true | _ => false) (AV.concL σ c xs).toArray := by
      unfold execOp
      rw [hop]
      simp only [resolve, hcal, h1, pure_bind, invoke]
      rfl
    cases b <;> simp only [reduceCtorEq] at he
    case len =>
      split at he
      · rename_i t x ht
        have := (evLenS_ok (σ := σ) (P := P) (gv := gv) (c := c) (h := h) (nx := nx) (w := w) t x h2.1 o.type cl.argTypes (AV.concL σ c [x]).toArray ht rfl).run he R
        rw [hex]
        exact ⟨run_valueOf this.1, this.2⟩
      · cases he
    case min =>
      cases xs with
      | nil => cases he
      | cons a l =>
        simp only at he
        obtain ⟨h3, h4⟩ := foldM_min (σ := σ) (c := c) (P := P) (w := w) l a v he h2.1 h2.2
        rw [hex]
        refine ⟨run_valueOf (s := Builtin.min_ _ _ _) ?_, h4⟩
        simp only [Builtin.min_, List.toList_toArray, AV.concL]
        exact h3
    case max =>
      cases xs with
      | nil => cases he
      | cons a l =>
        simp only at he
        obtain ⟨h3, h4⟩ := foldM_max (σ := σ) (c := c) (P := P) (w := w) l a v he h2.1 h2.2
        rw [hex]
        refine ⟨run_valueOf (s := Builtin.max_ _ _ _) ?_, h4⟩
        simp only [Builtin.max_, List.toList_toArray, AV.concL]
        exact h3
    case unsafeSliceData =>
      split at he
      · rename_i x
        have := (evSliceData_ok (σ := σ) (P := P) (gv := gv) (c := c) (h := h) (nx := nx) (w := w) x cl.argTypes o.type h2.1).run he R
        rw [hex]
        exact ⟨run_valueOf this.1, this.2⟩
      · cases he

/-- The functions without a body that are known. -/
def ExOk (σ : Nat → Value) (P : Program) (ex : FuncId → List AV → Option AV) : Prop :=
  ∀ f args v c w, ex f args = some v → AV.allL c.L args → (callFunc f (AV.concL σ c args).toArray).run P w = .ok (.value (v.conc σ c)) w ∧ v.all c.L

def ClOk (σ : Nat → Value) (P : Program) (gv : Nat → Option Pos) (s : Sem Next) (c : Cx) (h : Tr Obj) (nx : Pos) (w : World) : Cl → Prop
  | .rs r => NextOk σ P gv s c h nx w r
  | .enter f args => s.run P w = .ok (.enter f (AV.concL σ c args).toArray) w ∧ AV.allL c.L args

theorem AV.allL_append {p : Pos → Prop} {l m : List AV} : AV.allL p (l ++ m) ↔ AV.allL p l ∧ AV.allL p m := by
  simp only [AV.allL_iff, List.mem_append]
  constructor
  · intro hh; exact ⟨fun v hv => hh v (.inl hv), fun v hv => hh v (.inr hv)⟩
  · rintro ⟨h1, h2⟩ v (hv | hv)
    · exact h1 v hv
    · exact h2 v hv

theorem AV.concL_append (l m : List AV) : AV.concL σ c (l ++ m) = AV.concL σ c l ++ AV.concL σ c m := by simp [AV.concL_map]

theorem evCl_ok {ex : FuncId → List AV → Option AV} (hex : ExOk σ P ex) {ρ : Operand → Value} {o : Oper} {cl : Call} (hop : o.op = .call cl) {xs : List AV} (hv : Vals σ c ρ o.op.operands.toList xs) (R : Rel σ P gv c h nx w) :
    ClOk σ P gv (execOp ρ o) c h nx w (evCl P ex cl xs h nx) := by
  have hq : ClOk σ P gv (execOp ρ o) c h nx w (.rs (Rs.pure h nx (evClQ P cl xs h))) := by
    cases he : evClQ P cl xs h with
    | none => trivial
    | some v =>
      obtain ⟨h1, h2⟩ := evClQ_ok hop hv he R
      exact ⟨_, c, w, h1, .inl rfl, R, Ext.refl .., h2⟩
  unfold evCl
  cases hcal : cl.callee with
  | invoke r m => trivial
  | value f =>
    simp only
    rw [hop] at hv
    have hv2 : Vals σ c ρ (f :: cl.args.toList) xs := by simpa [Op.operands, Call.operands, hcal] using hv
    obtain ⟨a, ys, rfl, h1, h2, h3⟩ := Vals.cons hv2
    have hargs : cl.args.map ρ = (AV.concL σ c ys).toArray := by rw [← h3.1]; apply Array.ext'; simp
    cases a <;> try trivial
    case func fn first caps =>
      cases fn <;> try trivial
      case func g =>
        simp only
        have hall : AV.allL c.L (first ++ ys ++ caps) := AV.allL_append.2 ⟨AV.allL_append.2 ⟨h2.1, h3.2⟩, h2.2⟩
        have hrun : (execOp ρ o) = callFunc g (AV.concL σ c (first ++ ys ++ caps)).toArray := by
          unfold execOp
          rw [hop]
          simp only [resolve, hcal, hargs, h1, AV.conc, Deferred.ofValue, pure_bind, invoke]
          congr 1
          simp [AV.concL_append]
        cases hf : P.funcs[g]? with
        | none => trivial
        | some fn =>
          simp only
          cases hb : fn.body with
          | none =>
            simp only
            cases he : ex g (first ++ ys ++ caps) with
            | none => trivial
            | some v =>
              obtain ⟨e1, e2⟩ := hex g _ v c w he hall
              exact ⟨_, c, w, by rw [hrun, e1], .inl rfl, R, Ext.refl .., e2⟩
          | some body =>
            simp only
            cases hn : fn.name == "runtime.NumGoroutine" with
            | true => trivial
            | false =>
              refine ⟨?_, hall⟩
              rw [hrun]
              have hn' : fn.name ≠ "runtime.NumGoroutine" := by simpa using hn
              simp [callFunc, hf, hn', hb]
  | builtin b =>
    cases b <;> simp only <;> first
      | (exact hq)
      | skip
    case append =>
      rw [hop] at hv
      obtain ⟨h1, h2⟩ := callVals hcal hv
      split
      · rename_i s t a x hs ht
        have hex : execOp ρ o = builtin .append cl.argTypes o.type (cl.args.map fun | .const _ => true | _ => false) (AV.concL σ c [a, x]).toArray := by
          unfold execOp
          rw [hop]
          simp only [resolve, hcal, h1, pure_bind, invoke]
          rfl
        show NextOk σ P gv (execOp ρ o) c h nx w _
        rw [hex]
        exact run_builtin_value rfl (evAppend_ok (ty := o.type) hs ht rfl rfl h2.1 h2.2.1 R)
      · trivial
    case unsafeString =>
      rw [hop] at hv
      obtain ⟨h1, h2⟩ := callVals hcal hv
      split
      · rename_i t x n ht
        have hex : execOp ρ o = builtin .unsafeString cl.argTypes o.type (cl.args.map fun | .const _ => true | _ => false) (AV.concL σ c [x, n]).toArray := by
          unfold execOp
          rw [hop]
          simp only [resolve, hcal, h1, pure_bind, invoke]
          rfl
        show NextOk σ P gv (execOp ρ o) c h nx w _
        rw [hex]
        exact run_builtin_value rfl (evUnsafeString_ok o.type x n ht h2.1 R)
      · trivial

end
end Go.Ev
