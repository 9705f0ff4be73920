/- Operations on memory: new rows, fields, places, parts; each does in the model what it does here. -/
import Derived.Test.YteijaoaiiddcgaaGreatDoorEvMem0
import Derived.Laws.StructEq
import Derived.Laws.Build
namespace Go.Ev
open Go

noncomputable section

def ofScalar : Value → Option AV
  | .bool b => some (.bool b)
  | .int k n => match decide (k.wrap n = n) with
    | true => some (.int k (n % (md k : Int)).toNat)
    | false => none
  | .string s => some (.str s.data.toList.length (codeOf s.data.toList))
  | .pointer none => some .nilp
  | .slice none 0 0 => some .nils
  | .map none => some .nilm
  | .nilFunc => some .nilf
  | .nilIface => some .nili
  | _ => none

def ofScalars : List Value → Option (List AV)
  | [] => some []
  | v :: l => match ofScalar v, ofScalars l with
    | some a, some x => some (a :: x)
    | _, _ => none

def ofVal : Value → Option AV
  | .agg cs => match ofScalars cs.toList with
    | some l => some (.agg l)
    | none => none
  | .tuple ⟨[]⟩ => some .undef
  | v => ofScalar v

theorem ofScalar_ok {v : Value} {a : AV} (h : ofScalar v = some a) : (∀ σ c, a.conc σ c = v) ∧ (∀ p, a.all p) ∧ a.scalar = true := by
  unfold ofScalar at h
  split at h
  case h_2 k n =>
    split at h
    · rename_i he
      cases h
      refine ⟨fun σ c => ?_, fun _ => trivial, rfl⟩
      have he := of_decide_eq_true he
      simp only [AV.conc]
      have hp := md_pos k
      rw [Int.toNat_of_nonneg (Int.emod_nonneg _ (by omega)), ← wrap_md, he]
    · cases h
  case h_3 s =>
    cases h
    exact ⟨fun σ c => by simp only [AV.conc, textOf_codeOf], fun _ => trivial, rfl⟩
  all_goals first
    | (cases h; exact ⟨fun σ c => rfl, fun _ => trivial, rfl⟩)
    | cases h

theorem ofScalars_ok : ∀ {l : List Value} {x : List AV}, ofScalars l = some x → (∀ σ c, AV.concL σ c x = l) ∧ (∀ p, AV.allL p x) ∧ x.all AV.scalar = true
  | [], x, h => by cases h; exact ⟨fun _ _ => rfl, fun _ => trivial, rfl⟩
  | v :: l, x, h => by
    rw [ofScalars] at h
    cases e1 : ofScalar v with
    | none => rw [e1] at h; cases h
    | some a =>
      cases e2 : ofScalars l with
      | none => rw [e1, e2] at h; cases h
      | some y =>
        rw [e1, e2] at h; cases h
        obtain ⟨h1, h2, h3⟩ := ofScalar_ok e1
        obtain ⟨h4, h5, h6⟩ := ofScalars_ok e2
        exact ⟨fun σ c => by rw [AV.concL, h1, h4], fun p => ⟨h2 p, h5 p⟩, by simp [h3, h6]⟩

theorem ofVal_ok {v : Value} {a : AV} (h : ofVal v = some a) : (∀ σ c, a.conc σ c = v) ∧ (∀ p, a.all p) := by
  unfold ofVal at h
  split at h
  · rename_i cs
    cases e : ofScalars cs.toList with
    | none => rw [e] at h; cases h
    | some l =>
      rw [e] at h; cases h
      obtain ⟨h1, h2, h3⟩ := ofScalars_ok e
      exact ⟨fun σ c => by simp only [AV.conc, h1], fun p => ⟨h2 p, h3⟩⟩
  · cases h; exact ⟨fun _ _ => rfl, fun _ => trivial⟩
  · obtain ⟨h1, h2, _⟩ := ofScalar_ok h
    exact ⟨h1, h2⟩

/-- All cells bytes: the number that they are. -/
def bytesCode : List AV → Option Nat
  | [] => some 0
  | .int .u8 u :: l => match Nat.blt u 256, bytesCode l with
    | true, some c => some (Nat.add u (Nat.mul 256 c))
    | _, _ => none
  | _ :: _ => none

theorem bytesCode_ok : ∀ {l : List AV} {c : Nat}, bytesCode l = some c → (Row.bs l.length c).toList = l
  | [], c, h => rfl
  | a :: l, c, h => by
    rw [bytesCode.eq_def] at h
    split at h
    · rename_i e; cases e
    · rename_i u l' e
      cases e
      split at h
      · rename_i d hu hd
        cases h
        have ih := bytesCode_ok hd
        rw [Nat.blt_eq] at hu
        simp only [Row.toList] at ih ⊢
        rw [List.length_cons, List.range_succ_eq_map, List.map_cons, List.map_map]
        have h0 : Nat.mod (Nat.shiftRight (Nat.add u (Nat.mul 256 d)) (Nat.mul 8 0)) 256 = u := by
          show ((u + 256 * d) >>> (8 * 0)) % 256 = u
          simp; omega
        rw [h0]
        congr 1
        rw [← ih]
        simp only [List.length_map, List.length_range]
        refine List.map_congr_left fun i _ => ?_
        simp only [Function.comp_apply, AV.int.injEq, true_and]
        show ((u + 256 * d) >>> (8 * (i + 1))) % 256 = (d >>> (8 * i)) % 256
        have : (u + 256 * d) >>> 8 = d := by rw [Nat.shiftRight_eq_div_pow]; omega
        rw [show 8 * (i + 1) = 8 + 8 * i by omega, Nat.shiftRight_add, this]
      · cases h
    · cases h

def rowOf (l : List AV) : Row :=
  match l with
  | .int .u8 _ :: _ => match bytesCode l with
    | some c => .bs l.length c
    | none => .cs l
  | _ => .cs l

theorem rowOf_toList (l : List AV) : (rowOf l).toList = l := by
  unfold rowOf
  split
  · split
    · rename_i h; exact bytesCode_ok h
    · rfl
  · rfl

/-- A new object. -/
def newK {R : Type} (o : Obj) (h : Tr Obj) (nx : Pos) (k : Tr Obj → Pos → R) : R := Tr.setK nx o h fun h' => nx.succK fun nx' => k h' nx'

theorem newK_eq {R : Type} (o : Obj) (h : Tr Obj) (nx : Pos) (k : Tr Obj → Pos → R) : newK o h nx k = k (Tr.set nx o h) nx.succ := by
  unfold newK; rw [Tr.setK_eq, Pos.succK_eq]

section
variable {σ : Nat → Value} {P : Program} {gv : Nat → Option Pos} {c : Cx} {h : Tr Obj} {nx : Pos} {w : World}

theorem Rel.newRow (R : Rel σ P gv c h nx w) (elem : TypeId) (l : List AV) (ha : AV.allL c.L l) (hs : l.all AV.scalar = true) {r : Row} (hr : r.toList = l) :
    Rel σ P gv (c.add nx w.heap.size 0) (h.set nx (.row elem r false 0 true)) nx.succ (w.alloc (.cells (AV.concL σ c l).toArray elem)) ∧
    Ext c h nx w (c.add nx w.heap.size 0) (h.set nx (.row elem r false 0 true)) nx.succ (w.alloc (.cells (AV.concL σ c l).toArray elem)) := by
  refine R.alloc 0 _ _ ⟨[], (0, 0), ?_, fun _ => rfl, fun _ => rfl, by simp, by simp⟩ ⟨by rw [hr]; exact ha, by rw [hr]; exact hs⟩
  rw [hr, List.append_nil, AV.concL_agree (R.agree_add _ _) l ha]

def newPtr (elem : TypeId) (l : List AV) (h : Tr Obj) (nx : Pos) : Rs := newK (.row elem (rowOf l) false 0 true) h nx fun h' nx' => .val (.ptr nx 0) h' nx'

theorem newPtr_ok (elem : TypeId) (l : List AV) (ha : AV.allL c.L l) (hs : l.all AV.scalar = true) (R : Rel σ P gv c h nx w) :
    OpOk σ P gv (do pure (.pointer (some (← Go.newRow elem (AV.concL σ c l).toArray)))) c h nx w (newPtr elem l h nx) := by
  unfold newPtr
  rw [newK_eq]
  obtain ⟨h1, h2⟩ := R.newRow elem l ha hs (rowOf_toList l)
  refine ⟨_, _, ?_, h1, h2, .inl rfl⟩
  simp only [Go.newRow, bind_assoc, Sem.run_bind, run_newObj, Result.andThen_ok, pure_bind, Sem.run_pure, AV.conc]
  simp [Cx.add, World.alloc_eq]

def evAlloc (P : Program) (elem : TypeId) (h : Tr Obj) (nx : Pos) : Rs :=
  match P.info? elem with
  | some i => match i.zero with
    | some z => match ofVal z with
      | some a => match a.cells with
        | some l => newPtr elem l h nx
        | none => .fail
      | none => .fail
    | none => .fail
  | none => .fail

theorem run_zeroValue {t : TypeId} {i : TypeInfo} {z : Value} (hi : P.info? t = some i) (hz : i.zero = some z) (w : World) : (zeroValue t).run P w = .ok z w := by
  simp [zeroValue, run_typeInfo w hi, hz]

theorem evAlloc_ok (elem : TypeId) (R : Rel σ P gv c h nx w) : OpOk σ P gv (Instr.alloc elem true (.tuple #[])) c h nx w (evAlloc P elem h nx) := by
  unfold evAlloc
  cases hi : P.info? elem with
  | none => trivial
  | some i =>
    simp only
    cases hz : i.zero with
    | none => trivial
    | some z =>
      simp only
      cases ho : ofVal z with
      | none => trivial
      | some a =>
        simp only
        cases hc : a.cells with
        | none => trivial
        | some l =>
          simp only
          obtain ⟨h1, h2⟩ := ofVal_ok ho
          obtain ⟨h3, h4, h5⟩ := AV.cells_spec R.sc c hc (h2 c.L)
          have := newPtr_ok elem l h4 h5 R
          unfold OpOk at this ⊢
          cases e : newPtr elem l h nx with
          | fail => trivial
          | val v h' nx' =>
            rw [e] at this
            obtain ⟨c', w', g1, g2⟩ := this
            refine ⟨c', w', ?_, g2⟩
            rw [← g1]
            simp only [Instr.alloc, Sem.run_bind, run_zeroValue hi hz, Result.andThen_ok, newVar, ← h3, h1]

def evBox (elem : TypeId) (v : AV) (h : Tr Obj) (nx : Pos) : Rs :=
  match v.cells with
  | some l => newPtr elem l h nx
  | none => .fail

theorem evBox_ok (elem : TypeId) (v : AV) (hv : v.all c.L) (R : Rel σ P gv c h nx w) : OpOk σ P gv (Instr.box elem (v.conc σ c)) c h nx w (evBox elem v h nx) := by
  unfold evBox
  cases hc : v.cells with
  | none => trivial
  | some l =>
    obtain ⟨h3, h4, h5⟩ := AV.cells_spec R.sc c hc hv
    have := newPtr_ok elem l h4 h5 R
    simpa only [Instr.box, newVar, h3] using this

/-- The cells with parts laid in. -/
def fillL (place : Nat → Option (Nat × Nat)) (cells : List AV) : List (Nat × AV) → Option (List AV)
  | [] => some cells
  | (i, v) :: rest => match place i, v.cells with
    | some (off, size), some l => match Nat.beq l.length size with
      | true => spliceK off l cells (fun x => fillL place x rest) none
      | false => none
    | _, _ => none

theorem fold_set (vs : List Value) : ∀ (k off : Nat) (cs : Array Value), off + k + vs.length ≤ cs.size →
    ((vs.zipIdx k).foldl (fun (cs : Array Value) (x : Value × Nat) => cs.setIfInBounds (off + x.2) x.1) cs).toList = splice cs.toList (off + k) vs := by
  induction vs with
  | nil => intro k off cs _; simp [splice]
  | cons v vs ih =>
    intro k off cs hl
    simp only [List.length_cons] at hl
    rw [List.zipIdx_cons, List.foldl_cons, ih (k + 1) off _ (by simp; omega)]
    have e := list_seg_step cs.toList (off + k) v vs (by simp; omega)
    simpa [splice, Array.toList_setIfInBounds, Nat.add_assoc, Nat.add_comm, Nat.add_left_comm] using e

theorem fillL_ok (hσ : ∀ i, (σ i).oneCell' = true) (place : Nat → Option (Nat × Nat)) : ∀ (parts : List (Nat × AV)) (cells x : List AV), fillL place cells parts = some x →
    AV.allL c.L cells → cells.all AV.scalar = true → (∀ q ∈ parts, q.2.all c.L) →
    Instr.fill place (AV.concL σ c cells).toArray (parts.map fun q => (q.1, q.2.conc σ c)) = some (AV.concL σ c x).toArray ∧ AV.allL c.L x ∧ x.all AV.scalar = true ∧ x.length = cells.length
  | [], cells, x, h, ha, hs, _ => by
    cases h; exact ⟨rfl, ha, hs, rfl⟩
  | (i, v) :: rest, cells, x, h, ha, hs, hp => by
    rw [fillL] at h
    cases e1 : place i with
    | none => rw [e1] at h; cases h
    | some os =>
      obtain ⟨off, size⟩ := os
      cases e2 : v.cells with
      | none => rw [e1, e2] at h; cases h
      | some l =>
        rw [e1, e2] at h
        simp only at h
        cases e3 : Nat.beq l.length size with
        | false => rw [e3] at h; cases h
        | true =>
          rw [e3] at h
          have e3 := Nat.eq_of_beq_eq_true e3
          simp only [spliceK_eq] at h
          by_cases hlen : off + l.length ≤ cells.length
          · rw [if_pos hlen] at h
            obtain ⟨h3, h4, h5⟩ := AV.cells_spec hσ c e2 (hp (i, v) (by simp))
            have hm : ∀ y ∈ splice cells off l, y ∈ cells ∨ y ∈ l := by
              intro y hy
              simp only [splice, List.mem_append] at hy
              rcases hy with (hy | hy) | hy
              · exact .inl (List.mem_of_mem_take hy)
              · exact .inr hy
              · exact .inl (List.mem_of_mem_drop hy)
            have ha' : AV.allL c.L (splice cells off l) := by
              rw [AV.allL_iff]; intro y hy
              rcases hm y hy with q | q
              · exact (AV.allL_iff _ _).1 ha y q
              · exact (AV.allL_iff _ _).1 h4 y q
            have hs' : (splice cells off l).all AV.scalar = true := by
              rw [List.all_eq_true]; intro y hy
              rcases hm y hy with q | q
              · exact List.all_eq_true.1 hs y q
              · exact List.all_eq_true.1 h5 y q
            obtain ⟨g1, g2, g3, g4⟩ := fillL_ok hσ place rest _ x h ha' hs' (fun q hq => hp q (by simp [hq]))
            refine ⟨?_, g2, g3, by rw [g4, splice_length _ _ _ hlen]⟩
            rw [List.map_cons, Instr.fill]
            simp only [e1, h3]
            have hsz : (AV.concL σ c l).toArray.size = l.length := by simp [AV.concL_map]
            have hsz2 : (AV.concL σ c cells).toArray.size = cells.length := by simp [AV.concL_map]
            rw [if_neg (by rw [hsz, hsz2, e3]; simp; omega)]
            rw [← g1]
            congr 1
            apply Array.ext'
            rw [← Array.foldl_toList, Array.toList_zipIdx]
            have := fold_set (AV.concL σ c l) 0 off (AV.concL σ c cells).toArray (by rw [hsz2]; simp [AV.concL_map]; omega)
            simp only [Nat.add_zero] at this
            refine Eq.trans ?_ (this.trans ?_)
            · rfl
            · simp [splice, AV.concL_map]
          · rw [if_neg hlen] at h; cases h


theorem run_mapM_list {α β : Type} (f : α → Sem β) (g : α → β) (w : World) : ∀ l : List α, (∀ x ∈ l, (f x).run P w = .ok (g x) w) → (l.mapM f).run P w = .ok (l.map g) w
  | [], _ => by simp
  | x :: l, h => by
    rw [List.mapM_cons]
    simp only [Sem.run_bind, h x (by simp), Result.andThen_ok, run_mapM_list f g w l fun y hy => h y (by simp [hy]), Sem.run_pure, List.map_cons]

theorem run_mapM_array {α β : Type} (f : α → Sem β) (g : α → β) (w : World) (l : Array α) (h : ∀ x ∈ l.toList, (f x).run P w = .ok (g x) w) : (l.mapM f).run P w = .ok (l.map g) w := by
  rw [Array.mapM_eq_mapM_toList]
  simp only [Sem.run_map, run_mapM_list f g w l.toList h, Result.andThen_ok]
  congr 1
  apply Array.ext'; simp

def infoAll (P : Program) : List Field → Bool
  | [] => true
  | f :: l => match P.info? f.type with
    | some _ => infoAll P l
    | none => false

theorem infoAll_ok : ∀ {l : List Field}, infoAll P l = true → ∀ f ∈ l, ∃ i, P.info? f.type = some i
  | [], _, f, hf => by cases hf
  | g :: l, h, f, hf => by
    rw [infoAll] at h
    cases e : P.info? g.type with
    | none => rw [e] at h; cases h
    | some i =>
      rw [e] at h
      rcases List.mem_cons.1 hf with rfl | hf
      · exact ⟨i, e⟩
      · exact infoAll_ok h f hf

def zeroCells (P : Program) (t : TypeId) : Option (List AV) :=
  match P.info? t with
  | some i => match i.zero with
    | some z => match ofVal z with
      | some a => a.cells
      | none => none
    | none => none
  | none => none

theorem zeroCells_ok (hσ : ∀ i, (σ i).oneCell' = true) {t : TypeId} {l : List AV} (h : zeroCells P t = some l) :
    (∃ i z, P.info? t = some i ∧ i.zero = some z ∧ ∀ c, z.cells = (AV.concL σ c l).toArray) ∧ (∀ p, AV.allL p l) ∧ l.all AV.scalar = true := by
  unfold zeroCells at h
  cases hi : P.info? t with
  | none => rw [hi] at h; cases h
  | some i =>
    rw [hi] at h; simp only at h
    cases hz : i.zero with
    | none => rw [hz] at h; cases h
    | some z =>
      rw [hz] at h; simp only at h
      cases ho : ofVal z with
      | none => rw [ho] at h; cases h
      | some a =>
        rw [ho] at h; simp only at h
        obtain ⟨h1, h2⟩ := ofVal_ok ho
        refine ⟨⟨i, z, rfl, hz, fun c => ?_⟩, fun p => (AV.cells_spec hσ ⟨fun _ => 0, fun _ => 0, fun _ => True⟩ h (h2 p)).2.1, (AV.cells_spec hσ ⟨fun _ => 0, fun _ => 0, fun _ => True⟩ h (h2 fun _ => True)).2.2⟩
        rw [← h1 σ c]; exact (AV.cells_spec hσ c h (h2 fun _ => True)).1

def placeS (P : Program) (fs : Array Field) (i : Nat) : Option (Nat × Nat) :=
  match fs[i]? with
  | some f => some (f.offset, P.cellsOf f.type)
  | none => none

def evBuild (P : Program) (t : TypeId) (parts : List (Nat × AV)) : Option AV :=
  match zeroCells P t with
  | some z => match P.underlying t with
    | some (.struct fs) => match infoAll P fs.toList with
      | true => match fillL (placeS P fs) z parts with
        | some l => some (.agg l)
        | none => none
      | false => none
    | some (.array _ e) => match P.info? e with
      | some _ => match fillL (fun i => some (Nat.mul i (P.cellsOf e), P.cellsOf e)) z parts with
        | some l => some (.agg l)
        | none => none
      | none => none
    | _ => none
  | none => none

theorem evBuild_ok (t : TypeId) (parts : List (Nat × AV)) (hp : ∀ q ∈ parts, q.2.all c.L) :
    OpPure σ P gv (Instr.build t (parts.map fun q => (q.1, q.2.conc σ c)).toArray) c h nx w (evBuild P t parts) := by
  unfold evBuild
  cases hz : zeroCells P t with
  | none => trivial
  | some z =>
    simp only
    cases hu : P.underlying t with
    | none => trivial
    | some d =>
      cases d <;> try trivial
      case struct fs =>
        simp only
        cases hi : infoAll P fs.toList with
        | false => trivial
        | true =>
          simp only
          cases hf : fillL (placeS P fs) z parts with
          | none => trivial
          | some l =>
            intro R
            obtain ⟨⟨i, zv, h1, h2, h3⟩, h4, h5⟩ := zeroCells_ok R.sc hz
            obtain ⟨g1, g2, g3, g4⟩ := fillL_ok R.sc (placeS P fs) parts z l hf (h4 _) h5 hp
            refine ⟨?_, g2, g3⟩
            have hm : (fs.mapM fun f => (do pure (f.offset, ← sizeOf f.type) : Sem (Nat × Nat))).run P w = .ok (fs.map fun f => (f.offset, P.cellsOf f.type)) w :=
              run_mapM_array _ _ w fs fun f hf => by
                obtain ⟨j, hj⟩ := infoAll_ok hi f hf
                simp [run_sizeOf _ hj]
            have hpl : (fun x => (fs.map fun f => (f.offset, P.cellsOf f.type))[x]?) = placeS P fs := by
              funext x
              simp only [placeS, Array.getElem?_map]
              cases fs[x]? <;> rfl
            simp only [Instr.build, Sem.run_bind, run_zeroValue h1 h2, Result.andThen_ok, run_underlying hu, hm, h3 c, hpl, g1, Sem.run_pure, AV.conc]
      case array n e =>
        simp only
        cases hi : P.info? e with
        | none => trivial
        | some ie =>
          simp only
          cases hf : fillL (fun i => some (Nat.mul i (P.cellsOf e), P.cellsOf e)) z parts with
          | none => trivial
          | some l =>
            intro R
            obtain ⟨⟨i, zv, h1, h2, h3⟩, h4, h5⟩ := zeroCells_ok R.sc hz
            obtain ⟨g1, g2, g3, g4⟩ := fillL_ok R.sc _ parts z l hf (h4 _) h5 hp
            refine ⟨?_, g2, g3⟩
            simp only [Instr.build, Sem.run_bind, run_zeroValue h1 h2, Result.andThen_ok, run_underlying hu, h3 c, run_sizeOf _ hi]
            have : (fun i => some (i * P.cellsOf e, P.cellsOf e)) = (fun i => some (Nat.mul i (P.cellsOf e), P.cellsOf e)) := rfl
            rw [this, g1]
            rfl

def repL {α : Type} (l : List α) : Nat → List α
  | 0 => []
  | n + 1 => repL l n ++ l

theorem repL_eq (z : Array Value) (len : Nat) : ((Array.range (len * z.size)).map (fun i => z[i % z.size]!)) = (repL z.toList len).toArray := by
  apply Array.ext'
  simp only [Array.toList_map, Array.toList_range]
  induction len with
  | zero => simp [repL]
  | succ n ih =>
    rw [Nat.succ_mul, List.range_add, List.map_append, ih]
    simp only [repL]
    congr 1
    rw [List.map_map]
    apply List.ext_getElem
    · simp
    · intro j h1 h2
      simp only [List.length_map, List.length_range] at h1
      simp only [List.getElem_map, List.getElem_range, Function.comp_apply]
      rw [show n * z.size + j = j + z.size * n by rw [Nat.mul_comm]; omega, Nat.add_mul_mod_self_left, Nat.mod_eq_of_lt h1]
      simp [h1]

theorem repL_map {α β : Type} (f : α → β) (l : List α) : ∀ n, (repL l n).map f = repL (l.map f) n
  | 0 => rfl
  | n + 1 => by simp [repL, repL_map f l n]

theorem repL_mem {α : Type} {l : List α} {x : α} : ∀ {n}, x ∈ repL l n → x ∈ l
  | 0, h => by cases h
  | n + 1, h => by
    simp only [repL, List.mem_append] at h
    rcases h with h | h
    · exact repL_mem h
    · exact h

def evBuildSlice (P : Program) (t : TypeId) (len : Nat) (parts : List (Nat × AV)) (h : Tr Obj) (nx : Pos) : Rs :=
  match P.underlying t with
  | some (.slice e) => match Nat.ble (Nat.mul len (P.cellsOf e)) 16777216, zeroCells P e with
    | true, some z => match Nat.beq z.length (P.cellsOf e) with
      | true => match fillL (fun i => some (Nat.mul i (P.cellsOf e), P.cellsOf e)) (repL z len) parts with
        | some l => newK (.row e (rowOf l) false 0 true) h nx fun h' nx' => .val (.slice nx 0 len len) h' nx'
        | none => .fail
      | false => .fail
    | _, _ => .fail
  | _ => .fail

theorem evBuildSlice_ok (t : TypeId) (len : Nat) (parts : List (Nat × AV)) (hp : ∀ q ∈ parts, q.2.all c.L) (R : Rel σ P gv c h nx w) :
    OpOk σ P gv (Instr.buildSlice t len (parts.map fun q => (q.1, q.2.conc σ c)).toArray) c h nx w (evBuildSlice P t len parts h nx) := by
  unfold evBuildSlice
  cases hu : P.underlying t with
  | none => trivial
  | some d =>
    cases d <;> try trivial
    case slice e =>
      simp only
      cases hl : Nat.ble (Nat.mul len (P.cellsOf e)) 16777216 with
      | false => trivial
      | true =>
        cases hz : zeroCells P e with
        | none => trivial
        | some z =>
          simp only
          cases hb : Nat.beq z.length (P.cellsOf e) with
          | false => trivial
          | true =>
            simp only
            cases hf : fillL (fun i => some (Nat.mul i (P.cellsOf e), P.cellsOf e)) (repL z len) parts with
            | none => trivial
            | some l =>
              simp only
              rw [newK_eq]
              have hb := Nat.eq_of_beq_eq_true hb
              have hl : len * P.cellsOf e ≤ 16777216 := Nat.le_of_ble_eq_true hl
              obtain ⟨⟨i, zv, h1, h2, h3⟩, h4, h5⟩ := zeroCells_ok R.sc hz
              have hra : AV.allL c.L (repL z len) := by
                rw [AV.allL_iff]; intro x hx; exact (AV.allL_iff _ _).1 (h4 _) x (repL_mem hx)
              have hrs : (repL z len).all AV.scalar = true := by
                rw [List.all_eq_true]; intro x hx; exact List.all_eq_true.1 h5 x (repL_mem hx)
              obtain ⟨g1, g2, g3, g4⟩ := fillL_ok R.sc _ parts (repL z len) l hf hra hrs hp
              obtain ⟨r1, r2⟩ := R.newRow e l g2 g3 (rowOf_toList l)
              refine ⟨_, _, ?_, r1, r2, .inl rfl⟩
              have hsz : zv.cells.size = P.cellsOf e := by rw [h3 c]; simp [AV.concL_map, hb]
              have hrep : (Array.range (len * P.cellsOf e)).map (fun x => zv.cells[x % zv.cells.size]!) = (AV.concL σ c (repL z len)).toArray := by
                rw [← hsz, repL_eq, AV.concL_map, repL_map, h3 c, AV.concL_map]
              have hg : ¬ (len * P.cellsOf e > 2 ^ 24) := by simpa using hl
              by_cases h0 : len * P.cellsOf e = 0
              · have hr0 : (Array.range 0) = (#[] : Array Nat) := by apply Array.ext'; simp
                have hempty : (AV.concL σ c (repL z len)).toArray = #[] := by rw [← hrep, h0, hr0, Array.map_empty]
                rw [hempty] at g1
                simp only [Instr.buildSlice, Sem.run_bind, run_underlying hu, Result.andThen_ok, run_sizeOf _ h1, if_neg hg, Sem.run_ite, if_pos h0, Sem.run_pure, h0, hr0, Array.map_empty]
                have g1' : Instr.fill (fun i => some (i * P.cellsOf e, P.cellsOf e)) #[] (parts.map fun q => (q.1, q.2.conc σ c)) = some (AV.concL σ c l).toArray := g1
                simp only [g1', Go.newRow, Sem.run_bind, run_newObj, Result.andThen_ok, Sem.run_pure, AV.conc]
                simp [Cx.add, World.alloc_eq]
              · simp only [Instr.buildSlice, Sem.run_bind, run_underlying hu, Result.andThen_ok, run_sizeOf _ h1, if_neg hg, Sem.run_ite, if_neg h0, run_zeroValue h1 h2, Sem.run_pure, hrep]
                have g1' : Instr.fill (fun i => some (i * P.cellsOf e, P.cellsOf e)) (AV.concL σ c (repL z len)).toArray (parts.map fun q => (q.1, q.2.conc σ c)) = some (AV.concL σ c l).toArray := g1
                simp only [g1', Go.newRow, Sem.run_bind, run_newObj, Result.andThen_ok, Sem.run_pure, AV.conc]
                simp [Cx.add, World.alloc_eq]
end
end
end Go.Ev
