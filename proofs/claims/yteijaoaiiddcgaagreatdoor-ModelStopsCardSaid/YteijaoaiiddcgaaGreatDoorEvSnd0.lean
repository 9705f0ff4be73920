/- The operations of the deterministic machine are those of the model. -/
import Derived.Test.YteijaoaiiddcgaaGreatDoorEvCode0
import Derived.Tactics
namespace Go.Ev
open Go

section
variable {σ : Nat → Value} {P : Program} {gv : Nat → Option Pos} {c : Cx} {h : Tr Obj} {nx : Pos} {w : World}

/-- What an operation hands on. -/
def NextIs (n : Next) (x : Value) : Prop := n = .value x ∨ (n = .skip ∧ x = undef)

def NextOk (σ : Nat → Value) (P : Program) (gv : Nat → Option Pos) (s : Sem Next) (c : Cx) (h : Tr Obj) (nx : Pos) (w : World) : Rs → Prop
  | .fail => True
  | .val v h' nx' => ∃ n c' w', s.run P w = .ok n w' ∧ NextIs n (v.conc σ c') ∧ Rel σ P gv c' h' nx' w' ∧ Ext c h nx w c' h' nx' w' ∧ v.all c'.L

theorem NextOk.value {s : Sem Value} {r : Rs} (ho : OpOk σ P gv s c h nx w r) : NextOk σ P gv (do pure (.value (← s))) c h nx w r := by
  cases r with
  | fail => trivial
  | val v h' nx' =>
    obtain ⟨c', w', h1, h2⟩ := ho
    exact ⟨_, c', w', by simp only [Sem.run_bind, h1, Result.andThen_ok, Sem.run_pure], .inl rfl, h2⟩

theorem NextOk.unit {s : Sem Unit} {r : Rs} (ho : OpOk σ P gv (do s; pure undef) c h nx w r) : NextOk σ P gv (do s; pure .skip) c h nx w r := by
  cases r with
  | fail => trivial
  | val v h' nx' =>
    obtain ⟨c', w', h1, h2⟩ := ho
    simp only [Sem.run_bind] at h1
    cases hs : s.run P w with
    | halt x w2 => rw [hs] at h1; simp at h1
    | ok u w2 =>
      rw [hs] at h1
      simp only [Result.andThen_ok, Sem.run_pure, Result.ok.injEq] at h1
      obtain ⟨h3, h4⟩ := h1
      subst h4
      exact ⟨.skip, c', w2, by simp only [Sem.run_bind, hs, Result.andThen_ok, Sem.run_pure], .inr ⟨rfl, h3.symm⟩, h2⟩

theorem NextOk.pureV {s : Sem Value} {o : Option AV} (R : Rel σ P gv c h nx w) (ho : OpPure σ P gv s c h nx w o) : NextOk σ P gv (do pure (.value (← s))) c h nx w (Rs.pure h nx o) :=
  .value (.of_pure R ho)

theorem NextOk.here {x : Value} {v : AV} (R : Rel σ P gv c h nx w) (hx : x = v.conc σ c) (hv : v.all c.L) : NextOk σ P gv (pure (.value x)) c h nx w (.val v h nx) :=
  ⟨.value x, c, w, rfl, .inl (by rw [hx]), R, Ext.refl .., hv⟩

/-- The values of operands. -/
def Vals (σ : Nat → Value) (c : Cx) (ρ : Operand → Value) (ops : List Operand) (xs : List AV) : Prop := ops.map ρ = AV.concL σ c xs ∧ AV.allL c.L xs

theorem Vals.nil {ρ : Operand → Value} {xs : List AV} (hv : Vals σ c ρ [] xs) : xs = [] := by
  cases xs with
  | nil => rfl
  | cons a l => simp [Vals, AV.concL] at hv

theorem Vals.cons {ρ : Operand → Value} {x : Operand} {l : List Operand} {xs : List AV} (hv : Vals σ c ρ (x :: l) xs) : ∃ a y, xs = a :: y ∧ ρ x = a.conc σ c ∧ a.all c.L ∧ Vals σ c ρ l y := by
  cases xs with
  | nil => simp [Vals, AV.concL] at hv
  | cons a y =>
    obtain ⟨h1, h2⟩ := hv
    simp only [List.map_cons, AV.concL, List.cons.injEq] at h1
    exact ⟨a, y, rfl, h1.1, h2.1, h1.2, h2.2⟩

theorem Vals.append {ρ : Operand → Value} {l m : List Operand} {xs : List AV} (hv : Vals σ c ρ (l ++ m) xs) : Vals σ c ρ l (xs.take l.length) ∧ Vals σ c ρ m (xs.drop l.length) := by
  induction l generalizing xs with
  | nil => exact ⟨⟨rfl, trivial⟩, hv⟩
  | cons x l ih =>
    obtain ⟨a, y, rfl, h1, h2, h3⟩ := Vals.cons hv
    obtain ⟨h4, h5⟩ := ih h3
    refine ⟨⟨?_, h2, h4.2⟩, h5⟩
    simp only [List.map_cons, List.length_cons, List.take_succ_cons, AV.concL, h1, h4.1]

theorem zipP_ok {ρ : Operand → Value} : ∀ {ps : List (Nat × Operand)} {xs : List AV}, Vals σ c ρ (ps.map (·.2)) xs →
    (zipP ps xs).map (fun q => (q.1, q.2.conc σ c)) = ps.map (fun p => (p.1, ρ p.2)) ∧ ∀ q ∈ zipP ps xs, q.2.all c.L
  | [], xs, hv => by
    have := Vals.nil hv
    subst this
    exact ⟨rfl, fun q hq => by cases hq⟩
  | p :: ps, xs, hv => by
    obtain ⟨a, y, rfl, h1, h2, h3⟩ := Vals.cons hv
    obtain ⟨h4, h5⟩ := zipP_ok h3
    refine ⟨?_, fun q hq => ?_⟩
    · simp only [zipP, List.map_cons, h4, h1]
    · simp only [zipP, List.mem_cons] at hq
      rcases hq with rfl | hq
      · exact h2
      · exact h5 q hq

theorem evNil_ok {ρ : Operand → Value} {x : Operand} {a v : AV} (hx : ρ x = a.conc σ c) (ha : a.all c.L) (hv : evNil a = some v) (o : Oper) (ho : o.op = .nilCheck x) (w : World) :
    (execOp ρ o).run P w = .ok (.value (v.conc σ c)) w ∧ v.all c.L := by
  unfold execOp
  rw [ho]
  simp only [hx]
  unfold evNil at hv
  split at hv <;> first
    | (cases hv; exact ⟨rfl, ha⟩)
    | cases hv

theorem OpPure.run {s : Sem Value} {o : Option AV} {v : AV} (ho : OpPure σ P gv s c h nx w o) (hv : o = some v) (R : Rel σ P gv c h nx w) : s.run P w = .ok (v.conc σ c) w ∧ v.all c.L := by
  subst hv; exact ho R

theorem evConvQ_ok (s d : TypeId) (x : AV) (hx : x.all c.L) : OpPure σ P gv (convert s d (x.conc σ c)) c h nx w (evConvQ P s d x h) := by
  unfold evConvQ
  split
  · rename_i k hd
    cases he : evConvert P s d x h .h with
    | fail => trivial
    | val v h' nx' =>
      intro R
      unfold evConvert at he
      rw [hd] at he
      simp only at he
      split at he
      · rename_i j u hs
        simp only [Rs.pure] at he
        split at he
        · cases he
        · rename_i v' hc
          cases he
          obtain ⟨g1, g2⟩ := evConvInt_ok (P := P) (w := w) (σ := σ) (c := c) k j u v hc
          refine ⟨?_, g2⟩
          rw [← g1]
          simp only [convert, Sem.run_bind, run_underlying hs, run_underlying hd, Result.andThen_ok, AV.conc]
      · cases he
  · rename_i hd
    cases he : evConvert P s d x h .h with
    | fail => trivial
    | val v h' nx' =>
      intro R
      unfold evConvert at he
      rw [hd] at he
      simp only at he
      split at he
      · rename_i n d' hs
        cases he
        exact ⟨by simp [convert, run_underlying hs, run_underlying hd, AV.conc], trivial⟩
      · rename_i e hs
        split at he
        · rename_i hee
          cases he
          refine ⟨?_, trivial⟩
          simp only [AV.conc]
          rw [run_convert_bytes_string w s d e _ _ _ hs hee hd]
          rfl
        · cases he
      · rename_i e b off len cap hs
        split at he
        · rename_i el r tail frz plain hee ho
          split at he
          · rename_i d' hrb
            cases he
            exact ⟨convert_bytes s d e hd hs hee R hx ho hrb, trivial⟩
          · cases he
        · cases he
      · rename_i e b off len cut hs
        split at he
        · rename_i el r tail frz plain hee ho
          split at he
          · rename_i d' hrb
            cases he
            exact ⟨convert_bytes s d e hd hs hee R hx ho hrb, trivial⟩
          · cases he
        · cases he
      · cases he
  · trivial

theorem run_valueOf {s : Sem Value} {x : Value} {w w' : World} (hs : s.run P w = .ok x w') : (do pure (.value (← s)) : Sem Next).run P w = .ok (.value x) w' := by
  simp only [Sem.run_bind, hs, Result.andThen_ok, Sem.run_pure]

theorem evQ_ok {ρ : Operand → Value} {o : Oper} {xs : List AV} {v : AV} (hv : Vals σ c ρ o.op.operands.toList xs) (he : evQ P o xs h = some v) (R : Rel σ P gv c h nx w) :
    (execOp ρ o).run P w = .ok (.value (v.conc σ c)) w ∧ v.all c.L := by
  unfold evQ at he
  cases hop : o.op <;> rw [hop] at hv he <;> simp only [Op.operands] at hv <;> simp only [reduceCtorEq] at he
  case move x =>
    obtain ⟨a, y, rfl, h1, h2, h3⟩ := Vals.cons hv
    cases Vals.nil h3
    simp only [Option.some.injEq] at he
    subst he
    exact ⟨by simp only [execOp, hop, h1, Sem.run_pure], h2⟩
  case assign x =>
    obtain ⟨a, y, rfl, h1, h2, h3⟩ := Vals.cons hv
    cases Vals.nil h3
    simp only [Option.some.injEq] at he
    subst he
    exact ⟨by simp only [execOp, hop, h1, Sem.run_pure], h2⟩
  case pick b x y =>
    obtain ⟨a0, _, rfl, h1, h2, h3⟩ := Vals.cons hv
    obtain ⟨a1, _, rfl, h4, h5, h6⟩ := Vals.cons h3
    obtain ⟨a2, _, rfl, h7, h8, h9⟩ := Vals.cons h6
    cases Vals.nil h9
    cases a0 <;> simp only [reduceCtorEq] at he
    case bool b =>
      cases b <;> simp only [Option.some.injEq] at he <;> subst he
      · exact ⟨by simp [execOp, hop, h1, h7, AV.conc, asBool], h8⟩
      · exact ⟨by simp [execOp, hop, h1, h4, AV.conc, asBool], h5⟩
  case build t ps =>
    obtain ⟨h1, h2⟩ := zipP_ok (ps := ps.toList) (xs := xs) (by simpa using hv)
    have := (evBuild_ok (σ := σ) (P := P) (gv := gv) (c := c) (h := h) (nx := nx) (w := w) t (zipP ps.toList xs) h2).run he R
    refine ⟨?_, this.2⟩
    have e : (ps.map fun x => (x.1, ρ x.2)) = ((zipP ps.toList xs).map fun q => (q.1, q.2.conc σ c)).toArray := by
      rw [h1]; apply Array.ext'; simp
    unfold execOp
    rw [hop]
    simp only []
    rw [show (ps.map fun (i, x) => (i, ρ x)) = (ps.map fun x => (x.1, ρ x.2)) from rfl, e]
    exact run_valueOf this.1
  case load t x =>
    obtain ⟨a, y, rfl, h1, h2, h3⟩ := Vals.cons hv
    cases Vals.nil h3
    have := (evLoad_ok (σ := σ) (P := P) (gv := gv) (c := c) (h := h) (nx := nx) (w := w) t a h2).run he R
    exact ⟨by unfold execOp; rw [hop]; simp only [h1]; exact run_valueOf this.1, this.2⟩
  case nilCheck x =>
    obtain ⟨a, y, rfl, h1, h2, h3⟩ := Vals.cons hv
    cases Vals.nil h3
    exact evNil_ok h1 h2 he o hop w
  case binOp op t x y yt =>
    obtain ⟨a, _, rfl, h1, h2, h3⟩ := Vals.cons hv
    obtain ⟨b, _, rfl, h4, h5, h6⟩ := Vals.cons h3
    cases Vals.nil h6
    have := (evBin_ok (σ := σ) (P := P) (gv := gv) (c := c) (h := h) (nx := nx) (w := w) op t x y a b h2 h5).run he R
    exact ⟨by unfold execOp; rw [hop]; simp only [h1, h4]; exact run_valueOf this.1, this.2⟩
  case unOp op t x =>
    obtain ⟨a, y, rfl, h1, h2, h3⟩ := Vals.cons hv
    cases Vals.nil h3
    have := (evUn_ok (σ := σ) (P := P) (gv := gv) (c := c) (h := h) (nx := nx) (w := w) op a).run he R
    exact ⟨by unfold execOp; rw [hop]; simp only [h1]; exact run_valueOf this.1, this.2⟩
  case convert s d x =>
    obtain ⟨a, y, rfl, h1, h2, h3⟩ := Vals.cons hv
    cases Vals.nil h3
    have := (evConvQ_ok (σ := σ) (P := P) (gv := gv) (c := c) (h := h) (nx := nx) (w := w) s d a h2).run he R
    exact ⟨by unfold execOp; rw [hop]; simp only [h1]; exact run_valueOf this.1, this.2⟩
  case makeInterface t x =>
    obtain ⟨a, y, rfl, h1, h2, h3⟩ := Vals.cons hv
    cases Vals.nil h3
    simp only [evIface] at he
    split at he
    · rename_i hc
      cases he
      exact ⟨by unfold execOp; rw [hop]; simp only [h1]; exact run_valueOf (run_makeInterface w t _ hc), h2⟩
    · cases he
  case makeFunc fn first caps =>
    simp only [Option.some.injEq] at he
    subst he
    have hv2 : Vals σ c ρ (first.toList ++ caps.toList) xs := by simpa using hv
    obtain ⟨⟨h1, h2⟩, ⟨h3, h4⟩⟩ := Vals.append hv2
    simp only [Array.length_toList] at h1 h2 h3 h4
    refine ⟨?_, h2, h4⟩
    unfold execOp
    rw [hop]
    refine run_valueOf ?_
    simp only [Instr.makeFunc, Sem.run_pure, AV.conc]
    rw [← h1, ← h3]
    congr 2 <;> (apply Array.ext'; simp)
  case slice t x lo hi mx =>
    simp only [Array.toList_append, List.append_assoc] at hv
    obtain ⟨a, ys, rfl, h1, h2, h3⟩ := Vals.cons (l := _) hv
    cases lo <;> cases hi <;> cases mx <;> simp at h3 <;> simp only [] at he
    · cases Vals.nil h3
      have := (evSlice_ok (σ := σ) (P := P) (gv := gv) (c := c) (h := h) (nx := nx) (w := w) t a none none none h2).run he R
      exact ⟨by unfold execOp; rw [hop]; simp only [h1, Option.map_none]; exact run_valueOf this.1, this.2⟩
    · obtain ⟨b, _, rfl, _⟩ := Vals.cons h3; simp at he
    · obtain ⟨b, _, rfl, h4, h5, h6⟩ := Vals.cons h3
      cases Vals.nil h6
      have := (evSlice_ok (σ := σ) (P := P) (gv := gv) (c := c) (h := h) (nx := nx) (w := w) t a none (some b) none h2).run he R
      exact ⟨by unfold execOp; rw [hop]; simp only [h1, h4, Option.map_none, Option.map_some]; exact run_valueOf this.1, this.2⟩
    · obtain ⟨b, _, rfl, h4, h5, h6⟩ := Vals.cons h3
      obtain ⟨d, _, rfl, h7, h8, h9⟩ := Vals.cons h6
      cases Vals.nil h9
      have := (evSlice_ok (σ := σ) (P := P) (gv := gv) (c := c) (h := h) (nx := nx) (w := w) t a none (some b) (some d) h2).run he R
      exact ⟨by unfold execOp; rw [hop]; simp only [h1, h4, h7, Option.map_none, Option.map_some]; exact run_valueOf this.1, this.2⟩
    · obtain ⟨b, _, rfl, h4, h5, h6⟩ := Vals.cons h3
      cases Vals.nil h6
      have := (evSlice_ok (σ := σ) (P := P) (gv := gv) (c := c) (h := h) (nx := nx) (w := w) t a (some b) none none h2).run he R
      exact ⟨by unfold execOp; rw [hop]; simp only [h1, h4, Option.map_none, Option.map_some]; exact run_valueOf this.1, this.2⟩
    · obtain ⟨b, _, rfl, h4, h5, h6⟩ := Vals.cons h3
      obtain ⟨d, _, rfl, _⟩ := Vals.cons h6
      simp at he
    · obtain ⟨b, _, rfl, h4, h5, h6⟩ := Vals.cons h3
      obtain ⟨d, _, rfl, h7, h8, h9⟩ := Vals.cons h6
      cases Vals.nil h9
      have := (evSlice_ok (σ := σ) (P := P) (gv := gv) (c := c) (h := h) (nx := nx) (w := w) t a (some b) (some d) none h2).run he R
      exact ⟨by unfold execOp; rw [hop]; simp only [h1, h4, h7, Option.map_none, Option.map_some]; exact run_valueOf this.1, this.2⟩
    · obtain ⟨b, _, rfl, h4, h5, h6⟩ := Vals.cons h3
      obtain ⟨d, _, rfl, h7, h8, h9⟩ := Vals.cons h6
      obtain ⟨e, _, rfl, h10, h11, h12⟩ := Vals.cons h9
      cases Vals.nil h12
      have := (evSlice_ok (σ := σ) (P := P) (gv := gv) (c := c) (h := h) (nx := nx) (w := w) t a (some b) (some d) (some e) h2).run he R
      exact ⟨by unfold execOp; rw [hop]; simp only [h1, h4, h7, h10, Option.map_some]; exact run_valueOf this.1, this.2⟩
  case fieldAddr t x f =>
    obtain ⟨a, y, rfl, h1, h2, h3⟩ := Vals.cons hv
    cases Vals.nil h3
    have := (evFieldAddr_ok (σ := σ) (P := P) (gv := gv) (c := c) (h := h) (nx := nx) (w := w) t f a h2).run he R
    exact ⟨by unfold execOp; rw [hop]; simp only [h1]; exact run_valueOf this.1, this.2⟩
  case field t x f =>
    obtain ⟨a, y, rfl, h1, h2, h3⟩ := Vals.cons hv
    cases Vals.nil h3
    have := (evField_ok (σ := σ) (P := P) (gv := gv) (c := c) (h := h) (nx := nx) (w := w) t f a h2).run he R
    exact ⟨by unfold execOp; rw [hop]; simp only [h1]; exact run_valueOf this.1, this.2⟩
  case indexAddr t x i =>
    obtain ⟨a, _, rfl, h1, h2, h3⟩ := Vals.cons hv
    obtain ⟨b, _, rfl, h4, h5, h6⟩ := Vals.cons h3
    cases Vals.nil h6
    have := (evIndexAddr_ok (σ := σ) (P := P) (gv := gv) (c := c) (h := h) (nx := nx) (w := w) t a b h2).run he R
    exact ⟨by unfold execOp; rw [hop]; simp only [h1, h4]; exact run_valueOf this.1, this.2⟩
  case index t x i =>
    obtain ⟨a, _, rfl, h1, h2, h3⟩ := Vals.cons hv
    obtain ⟨b, _, rfl, h4, h5, h6⟩ := Vals.cons h3
    cases Vals.nil h6
    have := (evIndex_ok (σ := σ) (P := P) (gv := gv) (c := c) (h := h) (nx := nx) (w := w) t a b h2).run he R
    exact ⟨by unfold execOp; rw [hop]; simp only [h1, h4]; exact run_valueOf this.1, this.2⟩
  case lookup t x i ok =>
    obtain ⟨a, _, rfl, h1, h2, h3⟩ := Vals.cons hv
    obtain ⟨b, _, rfl, h4, h5, h6⟩ := Vals.cons h3
    cases Vals.nil h6
    have := (evLook_ok (σ := σ) (P := P) (gv := gv) (c := c) (h := h) (nx := nx) (w := w) t a b ok h2 h5).run he R
    exact ⟨by unfold execOp; rw [hop]; simp only [h1, h4]; exact run_valueOf this.1, this.2⟩
  case next x s =>
    obtain ⟨a, y, rfl, h1, h2, h3⟩ := Vals.cons hv
    cases Vals.nil h3
    cases s <;> simp only [reduceCtorEq] at he
    have := (evNext_ok (σ := σ) (P := P) (gv := gv) (c := c) (h := h) (nx := nx) (w := w) a o.type h2).run he R
    exact ⟨by unfold execOp; rw [hop]; simp only [h1]; exact run_valueOf this.1, this.2⟩
  case entry x =>
    obtain ⟨a, y, rfl, h1, h2, h3⟩ := Vals.cons hv
    cases Vals.nil h3
    have := (evEntry_ok (σ := σ) (P := P) (gv := gv) (c := c) (h := h) (nx := nx) (w := w) a h2).run he R
    exact ⟨by unfold execOp; rw [hop]; simp only [h1]; exact run_valueOf this.1, this.2⟩
  case extract x i =>
    obtain ⟨a, y, rfl, h1, h2, h3⟩ := Vals.cons hv
    cases Vals.nil h3
    have := (evExtract_ok (σ := σ) (P := P) (gv := gv) (c := c) (h := h) (nx := nx) (w := w) i a h2).run he R
    exact ⟨by unfold execOp; rw [hop]; simp only [h1]; exact run_valueOf this.1, this.2⟩

end
end Go.Ev
