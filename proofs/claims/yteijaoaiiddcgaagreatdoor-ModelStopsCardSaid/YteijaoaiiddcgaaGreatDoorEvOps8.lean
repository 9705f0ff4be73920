/- Maps are written, gone through; a text over bytes that are there. -/
import Derived.Test.YteijaoaiiddcgaaGreatDoorEvOps7
import Derived.Lib.UnsafeStr
import Derived.Maps.RangeRun
namespace Go.Ev
open Go

noncomputable section
section
variable {σ : Nat → Value} {P : Program} {gv : Nat → Option Pos} {c : Cx} {h : Tr Obj} {nx : Pos} {w : World}

def evMakeMap (h : Tr Obj) (nx : Pos) : Rs := newK (.map []) h nx fun h' nx' => .val (.map nx) h' nx'

theorem evMakeMap_ok (t : TypeId) (R : Rel σ P gv c h nx w) : OpOk σ P gv (Instr.makeMap t none) c h nx w (evMakeMap h nx) := by
  unfold evMakeMap
  rw [newK_eq]
  obtain ⟨R1, E1⟩ := R.alloc 0 (.map []) (.map #[] 0) rfl (fun x hx => by cases hx)
  refine ⟨_, _, ?_, R1, E1, .inl rfl⟩
  simp [Instr.makeMap, AV.conc, Cx.add, World.alloc_eq]

def evMapUpdate (P : Program) (t : TypeId) (m k v : AV) (h : Tr Obj) (nx : Pos) : Rs :=
  match P.underlying t with
  | some (.map kt _) => match plainKey P kt, m with
    | true, .map b => match h.get b with
      | some (.map es) => match findA P kt k h es 0 with
        | some (some (i, _)) => forceL (es.set i (k, v)) fun es' => Tr.setK b (.map es') h fun h' => .val .undef h' nx
        | some none => forceL (es ++ [(k, v)]) fun es' => Tr.setK b (.map es') h fun h' => .val .undef h' nx
        | none => .fail
      | _ => .fail
    | _, _ => .fail
  | _ => .fail

theorem run_setObj_map {r : Nat} {es : Array MapEntry} {k : Nat} (o : Go.Obj) (hr : w.heap[r]? = some (.map es k)) : (setObj r o).run P w = .ok () { w with heap := w.heap.setIfInBounds r o } := by
  simp only [setObj, Sem.run, hr]

theorem Rel.setMap (R : Rel σ P gv c h nx w) {b : Pos} (hb : c.L b) {es es' : List (AV × AV)} (ho : h.get b = some (.map es)) (ha : ∀ x ∈ es', x.1.all c.L ∧ x.2.all c.L) :
    Rel σ P gv c (h.set b (.map es')) nx { w with heap := w.heap.setIfInBounds (c.ρ b) (.map (entriesOf σ c es').toArray es'.length) } ∧
    Ext c h nx w c (h.set b (.map es')) nx { w with heap := w.heap.setIfInBounds (c.ρ b) (.map (entriesOf σ c es').toArray es'.length) } := by
  refine R.upd hb ho (fun _ => rfl) (by simp) (fun i hi => by simp [Array.getElem?_setIfInBounds_ne (Ne.symm hi)]) (.inl rfl) ?_ ha rfl rfl rfl
  have := R.le b hb
  simp [Obj.is, this]

theorem entriesOf_set (es : List (AV × AV)) (i : Nat) (k v : AV) : entriesOf σ c (es.set i (k, v)) = ((entriesOf σ c es).toArray.modify i fun e => { e with key := k.conc σ c, val := v.conc σ c }).toList := by
  apply List.ext_getElem?
  intro j
  simp only [entriesOf, Array.getElem?_toList, Array.getElem?_modify, List.getElem?_toArray, List.getElem?_map, List.getElem?_zipIdx, List.getElem?_set]
  by_cases hij : i = j
  · subst hij
    simp only [if_true]
    by_cases hlt : i < es.length
    · simp [hlt, List.getElem?_eq_getElem hlt]
    · simp [hlt, List.getElem?_eq_none (Nat.le_of_not_lt hlt)]
  · simp only [hij, if_false]

theorem evMapUpdate_ok (t : TypeId) (m k v : AV) (hm : m.all c.L) (hk : k.all c.L) (hv : v.all c.L) (R : Rel σ P gv c h nx w) :
    OpOk σ P gv (do Instr.mapUpdate t (m.conc σ c) (k.conc σ c) (v.conc σ c); pure undef) c h nx w (evMapUpdate P t m k v h nx) := by
  unfold evMapUpdate
  cases hu : P.underlying t with
  | none => trivial
  | some d =>
    cases d <;> simp only <;> try trivial
    case map kt el =>
      split
      · rename_i b hp
        split
        · rename_i es hg
          have ho := R.obj b _ hm hg
          simp only [Obj.is] at ho
          have hcl := R.closed b _ hm hg
          have hc0 := run_checkKey hp false 9999 (k.conc σ c) w
          split
          · rename_i i v0 hf
            rw [forceL_eq, Tr.setK_eq]
            have hfr := findA_run hp hk R hf fun x hx => (hcl x hx).1
            obtain ⟨f1, _, x, f3, f4, f5⟩ := findA_all hf hcl
            have hin : ∀ y ∈ es.set i (k, v), y.1.all c.L ∧ y.2.all c.L := by
              intro y hy
              rcases List.mem_or_eq_of_mem_set hy with h1 | h1
              · exact hcl y h1
              · subst h1; exact ⟨hk, hv⟩
            obtain ⟨R1, E1⟩ := R.setMap hm hg hin
            refine ⟨c, _, ?_, R1, E1, trivial⟩
            simp only [Nat.sub_zero] at f3
            have hent : (entriesOf σ c es).toArray[i]? = some (entryOf σ c (x, i)) := by
              simp [entriesOf_eq, f3]
            have hsame := (keyEq_same (σ := σ) (c := c) f5).2 10000
            simp only [Instr.mapUpdate, Sem.run_bind, run_underlying hu, Result.andThen_ok, AV.conc, run_getObj_map ho, hc0, List.toList_toArray, hfr, Option.map_some, hent, Option.getD_some]
            have hkt : (Instr.keyThatStays (entryOf σ c (x, i)).key (k.conc σ c)).run P w = .ok (k.conc σ c) w := by
              simp only [Instr.keyThatStays, entryOf, hsame, if_true, Sem.run_pure]
            simp only [hkt, Result.andThen_ok, run_setObj_map _ ho, Sem.run_pure]
            congr 2
            rw [entriesOf_set]
            simp
          · rename_i hf
            rw [forceL_eq, Tr.setK_eq]
            have hfr := findA_run hp hk R hf fun x hx => (hcl x hx).1
            have hin : ∀ y ∈ es ++ [(k, v)], y.1.all c.L ∧ y.2.all c.L := by
              intro y hy
              rcases List.mem_append.1 hy with h1 | h1
              · exact hcl y h1
              · simp only [List.mem_singleton] at h1; subst h1; exact ⟨hk, hv⟩
            obtain ⟨R1, E1⟩ := R.setMap hm hg hin
            refine ⟨c, _, ?_, R1, E1, trivial⟩
            simp only [Instr.mapUpdate, Sem.run_bind, run_underlying hu, Result.andThen_ok, AV.conc, run_getObj_map ho, hc0, List.toList_toArray, hfr, Option.map_none, run_setObj_map _ ho, Sem.run_pure]
            congr 2
            simp [entriesOf, List.zipIdx_append]
          · trivial
        · trivial
      · trivial

def evRange (P : Program) (t : TypeId) (x : AV) (h : Tr Obj) (nx : Pos) : Rs :=
  match P.underlying t, x with
  | some (.map _ _), .nilm => newK (.iter none 0 [] 0) h nx fun h' nx' => .val (.ptr nx 0) h' nx'
  | some (.map _ _), .map b => match h.get b with
    | some (.map es) => newK (.iter (some b) es.length [] es.length) h nx fun h' nx' => .val (.ptr nx 0) h' nx'
    | _ => .fail
  | _, _ => .fail

theorem evRange_ok (t : TypeId) (x : AV) (hx : x.all c.L) (R : Rel σ P gv c h nx w) : OpOk σ P gv (Instr.range t (x.conc σ c)) c h nx w (evRange P t x h nx) := by
  unfold evRange
  split
  · rename_i k e hu
    rw [newK_eq]
    obtain ⟨R1, E1⟩ := R.alloc 0 (.iter none 0 [] 0) (.mapIter none 0 #[] 0) rfl trivial
    refine ⟨_, _, ?_, R1, E1, .inl rfl⟩
    simp only [Instr.range, Sem.run_bind, run_underlying hu, Result.andThen_ok, AV.conc, Sem.run_pure, run_newObj, World.alloc_eq]
    simp [Cx.add]
  · rename_i k e b hu
    split
    · rename_i es hg
      rw [newK_eq]
      have ho := R.obj b _ hx hg
      simp only [Obj.is] at ho
      obtain ⟨R1, E1⟩ := R.alloc 0 (.iter (some b) es.length [] es.length) (.mapIter (some (c.ρ b)) es.length #[] es.length) (by simp [Obj.is, Cx.add, R.ne_nx hx]) hx
      refine ⟨_, _, ?_, R1, E1, .inl rfl⟩
      simp only [Instr.range, Sem.run_bind, run_underlying hu, Result.andThen_ok, AV.conc, run_getObj_map ho, Sem.run_pure, run_newObj, World.alloc_eq]
      simp [Cx.add]
    · trivial
  · trivial

/-- All has been seen. -/
def evNext (x : AV) (h : Tr Obj) : Option AV :=
  match x with
  | .ptr b 0 => match h.get b with
    | some (.iter none _ _ _) => some (.tup [.bool false])
    | some (.iter (some m) _ [] _) => match h.get m with
      | some (.map []) => some (.tup [.bool false])
      | _ => none
    | _ => none
  | _ => none

theorem run_getObj_iter {r : Nat} {m : Option Nat} {a : Nat} {s : Array Nat} {k : Nat} (hr : w.heap[r]? = some (.mapIter m a s k)) : (getObj r).run P w = .ok (.mapIter m a s k) w := by
  simp only [getObj, Sem.run, hr]

theorem evNext_ok (x : AV) (ty : TypeId) (hx : x.all c.L) : OpPure σ P gv (Instr.next (x.conc σ c) false ty) c h nx w (evNext x h) := by
  unfold evNext
  split
  · rename_i b
    split
    · rename_i a s k hg
      intro R
      have ho := R.obj b _ hx hg
      simp only [Obj.is, Option.map_none] at ho
      refine ⟨?_, trivial, trivial⟩
      simp only [Instr.next, AV.conc, Sem.run_bind, run_getObj_iter ho, Result.andThen_ok, Sem.run_pure]
      rfl
    · rename_i m a k hg
      split
      · rename_i hgm
        intro R
        have ho := R.obj b _ hx hg
        simp only [Obj.is, Option.map_some] at ho
        have hm : c.L m := R.closed b _ hx hg
        have hom := R.obj m _ hm hgm
        simp only [Obj.is] at hom
        have hom : w.heap[c.ρ m]? = some (.map #[] 0) := hom
        refine ⟨?_, trivial, trivial⟩
        simp only [Instr.next, AV.conc, Sem.run_bind, run_getObj_iter ho, Result.andThen_ok, run_getObj_map hom]
        have hf : ∀ p : MapEntry → Bool, (#[] : Array MapEntry).filter p = #[] := fun p => by apply Array.ext'; simp
        simp only [hf]
        simp [Question.forced, AV.concL, AV.conc]
      · trivial
    · trivial
  · trivial

def memN (i : Nat) : List Nat → Bool
  | [] => false
  | j :: l => match Nat.beq j i with
    | true => true
    | false => memN i l

/-- The places that have not been seen. -/
def leftN (seen : List Nat) : Nat → Nat → List Nat
  | 0, _ => []
  | k + 1, i => match memN i seen with
    | true => leftN seen k (Nat.succ i)
    | false => i :: leftN seen k (Nat.succ i)

/-- The next entry, where at most one is left. -/
def evNextS (x : AV) (h : Tr Obj) (nx : Pos) : Rs :=
  match x with
  | .ptr b 0 => match h.get b with
    | some (.iter (some m) since seen stepped) => match h.get m with
      | some (.map es) => match Nat.beq es.length since && Nat.ble since stepped with
        | true => match leftN seen es.length 0 with
          | [] => .val (.tup [.bool false]) h nx
          | [i] => match es[i]? with
            | some e => forceL (seen ++ [i]) fun seen' => Tr.setK b (.iter (some m) since seen' es.length) h fun h' => .val (.tup [.bool true, e.1, e.2]) h' nx
            | none => .fail
          | _ => .fail
        | false => .fail
      | _ => .fail
    | _ => Rs.pure h nx (evNext x h)
  | _ => .fail

theorem memN_eq (i : Nat) : ∀ l : List Nat, memN i l = l.contains i
  | [] => rfl
  | j :: l => by
    rw [memN, List.contains_cons]
    cases hb : Nat.beq j i with
    | true => rw [Nat.eq_of_beq_eq_true hb]; simp
    | false =>
      have := Nat.ne_of_beq_eq_false hb
      rw [memN_eq i l]
      have h2 : (i == j) = false := by simpa using Ne.symm this
      simp [h2]

theorem leftN_eq (seen : List Nat) : ∀ k i, leftN seen k i = (List.range' i k).filter fun j => !seen.contains j
  | 0, i => rfl
  | k + 1, i => by
    rw [leftN, List.range'_succ, List.filter_cons, memN_eq]
    cases seen.contains i with
    | true => exact leftN_eq seen k (i + 1)
    | false => simp only [Bool.not_false, if_true]; rw [← leftN_eq seen k (i + 1)]

theorem entries_left (es : List (AV × AV)) (seen : List Nat) : leftOf (entriesOf σ c es).toArray seen.toArray = ((es.zipIdx.filter fun x => !seen.contains x.2).map (entryOf σ c)).toArray := by
  unfold leftOf
  apply Array.ext'
  simp only [Array.toList_filter, entriesOf_eq]
  rw [List.filter_map]
  congr 1
  apply List.filter_congr
  intro x _
  show (!seen.toArray.contains x.2) = !seen.contains x.2
  rw [List.contains_toArray]

theorem zipIdx_born (es : List (AV × AV)) (seen : List Nat) : (es.zipIdx.filter fun x => !seen.contains x.2).map (·.2) = leftN seen es.length 0 := by
  rw [leftN_eq]
  have : es.zipIdx.map (·.2) = List.range' 0 es.length := by simp [List.range_eq_range']
  rw [← this, List.filter_map]
  rfl

theorem evNextS_ok (x : AV) (ty : TypeId) (hx : x.all c.L) (R : Rel σ P gv c h nx w) : OpOk σ P gv (Instr.next (x.conc σ c) false ty) c h nx w (evNextS x h nx) := by
  unfold evNextS
  split
  · rename_i b
    split
    · rename_i m since seen stepped hg
      split
      · rename_i es hgm
        split
        · rename_i hc
          rw [Bool.and_eq_true] at hc
          have hc1 := Nat.eq_of_beq_eq_true hc.1
          have hc2 := Nat.le_of_ble_eq_true hc.2
          have ho := R.obj b _ hx hg
          simp only [Obj.is, Option.map_some] at ho
          have hm : c.L m := R.closed b _ hx hg
          have hom := R.obj m _ hm hgm
          simp only [Obj.is] at hom
          have hcl := R.closed m _ hm hgm
          have hborn : ∀ y ∈ (entriesOf σ c es).toArray.toList, y.born < since := by
            intro y hy
            simp only [entriesOf_eq, List.mem_map] at hy
            obtain ⟨z, hz, rfl⟩ := hy
            have := (List.mem_zipIdx hz).2.1
            simp only [entryOf]; omega
          have hrun := run_next_at (P := P) w ty (c.ρ b) (c.ρ m) since stepped seen.toArray (entriesOf σ c es).toArray es.length ho hom hborn hc2
          rw [entries_left] at hrun
          have hlen : (List.filter (fun x => !seen.contains x.2) es.zipIdx).length = (leftN seen es.length 0).length := by rw [← zipIdx_born, List.length_map]
          split
          · rename_i hl
            rw [hl] at hlen
            have hnil := List.length_eq_zero_iff.1 hlen
            rw [hnil] at hrun
            rcases hrun with ⟨_, h1⟩ | ⟨e, he, _⟩
            · exact ⟨c, w, by rw [show (AV.ptr b 0).conc σ c = .pointer (some ⟨c.ρ b, 0, none⟩) from rfl, h1]; simp [AV.conc, AV.concL], R, Ext.refl .., trivial, trivial⟩
            · simp at he
          · rename_i i hl
            split
            · rename_i e hei
              rw [forceL_eq, Tr.setK_eq]
              have hz : List.filter (fun x => !seen.contains x.2) es.zipIdx = [(e, i)] := by
                rw [hl] at hlen
                obtain ⟨q, hq⟩ := List.length_eq_one_iff.1 hlen
                have hb := zipIdx_born es seen
                rw [hq, hl] at hb
                simp only [List.map_cons, List.map_nil, List.cons.injEq, and_true] at hb
                have hmem : q ∈ es.zipIdx := (List.mem_filter.1 (by rw [hq]; exact List.mem_singleton.2 rfl)).1
                have := List.mk_mem_zipIdx_iff_getElem?.1 (show (q.1, q.2) ∈ es.zipIdx from hmem)
                rw [hb, hei] at this
                rw [hq]
                obtain ⟨q1, q2⟩ := q
                simp only at hb this
                cases this; rw [hb]
              rw [hz] at hrun
              rcases hrun with ⟨h1, _⟩ | ⟨e', he', w1, hw1, h1⟩
              · simp at h1
              · simp only [List.map_cons, List.map_nil, List.mem_singleton] at he'
                subst he'
                have hR1 : Rel σ P gv c h nx w1 ∧ Ext c h nx w c h nx w1 := by
                  rcases hw1 with rfl | rfl
                  · exact ⟨R, Ext.refl ..⟩
                  · exact R.drew
                have hh1 : w1.heap = w.heap := by rcases hw1 with rfl | rfl <;> rfl
                have hlt := hR1.1.le b hx
                obtain ⟨R2, X2⟩ := hR1.1.upd (o' := .iter (some m) since (seen ++ [i]) es.length) (w' := Go.ChangeMaps.setBlock w1 (c.ρ b) (.mapIter (some (c.ρ m)) since (seen.toArray.push i) es.length)) hx hg (fun _ => rfl)
                  (by simp [Go.ChangeMaps.setBlock]) (fun j hj => by simp [Go.ChangeMaps.setBlock, Array.getElem?_setIfInBounds_ne (Ne.symm hj)]) (.inl rfl)
                  (by simp [Obj.is, Go.ChangeMaps.setBlock, hlt]) hm rfl rfl rfl
                have hall := hcl e (List.mem_of_getElem? hei)
                refine ⟨c, _, ?_, R2, hR1.2.trans X2, trivial, hall.1, hall.2, trivial⟩
                rw [show (AV.ptr b 0).conc σ c = .pointer (some ⟨c.ρ b, 0, none⟩) from rfl, h1]
                simp [AV.conc, AV.concL, entryOf]
            · trivial
          · trivial
        · trivial
      · trivial
    · exact OpOk.of_pure R (evNext_ok _ ty hx)
  · trivial

/-- The entry that was handed out last. -/
def evEntry (x : AV) (h : Tr Obj) : Option AV :=
  match x with
  | .ptr b 0 => match h.get b with
    | some (.iter (some m) _ seen stepped) => match seen.getLast?, h.get m with
      | some i, some (.map es) => match Nat.beq es.length stepped, es[i]? with
        | true, some e => some (.tup [e.1, e.2])
        | _, _ => none
      | _, _ => none
    | _ => none
  | _ => none

theorem evEntry_ok (x : AV) (hx : x.all c.L) : OpPure σ P gv (Instr.entry (x.conc σ c)) c h nx w (evEntry x h) := by
  unfold evEntry
  split
  · rename_i b
    split
    · rename_i m since seen stepped hg
      split
      · rename_i i es hi hgm
        split
        · rename_i e hc he
          intro R
          have hc := Nat.eq_of_beq_eq_true hc
          have ho := R.obj b _ hx hg
          simp only [Obj.is, Option.map_some] at ho
          have hm : c.L m := R.closed b _ hx hg
          have hom := R.obj m _ hm hgm
          simp only [Obj.is] at hom
          have hcl := R.closed m _ hm hgm _ (List.mem_of_getElem? he)
          refine ⟨?_, hcl.1, hcl.2, trivial⟩
          obtain ⟨l, hl⟩ := List.getLast?_eq_some_iff.1 hi
          have hseen : seen.toArray = l.toArray.push (entryOf σ c (e, i)).born := by rw [hl]; simp [entryOf]
          rw [hseen, ← hc] at ho
          have hmem : entryOf σ c (e, i) ∈ (entriesOf σ c es).toArray.toList := by
            simp only [entriesOf_eq, List.mem_map]
            exact ⟨(e, i), List.mk_mem_zipIdx_iff_getElem?.2 he, rfl⟩
          have hnd : ((entriesOf σ c es).toArray.toList.map (·.born)).Nodup := by
            simp only [entriesOf_eq, List.map_map]
            have : (List.map ((fun x => x.born) ∘ entryOf σ c) es.zipIdx) = es.zipIdx.map (·.2) := rfl
            rw [this]
            have h2 : es.zipIdx.map (·.2) = List.range' 0 es.length := by simp
            rw [h2]
            exact List.nodup_range'
          have := run_entry_at (P := P) w (c.ρ b) (c.ρ m) since l.toArray (entriesOf σ c es).toArray es.length (entryOf σ c (e, i)) ho hom hmem hnd
          rw [show (AV.ptr b 0).conc σ c = .pointer (some ⟨c.ρ b, 0, none⟩) from rfl, this]
          simp [AV.conc, AV.concL, entryOf]
        · trivial
      · trivial
    · trivial
  · trivial

def evSliceData (P : Program) (x : AV) (h : Tr Obj) : Option AV :=
  match x with
  | .nils => some .nilp
  | .slice b off _ cap => match cap with
    | 0 => none
    | _ + 1 => some (.ptr b off)
  | .sliceU b off len cut => match h.get b with
    | some (.row el _ _ _ _) => match len, openOk P h el b off len cut with
      | _ + 1, true => some (.ptr b off)
      | _, _ => none
    | _ => none
  | _ => none

theorem evSliceData_ok (x : AV) (types : Array TypeId) (ty : TypeId) (hx : x.all c.L) : OpPure σ P gv (Builtin.unsafeSliceData_ types ty #[x.conc σ c]) c h nx w (evSliceData P x h) := by
  unfold evSliceData
  split
  · intro R; exact ⟨rfl, trivial⟩
  · rename_i b off len cap
    split
    · trivial
    · intro R
      refine ⟨?_, hx⟩
      simp only [AV.conc]
      exact Lib.run_unsafeSliceData_row w types ty _ _ _ (by omega)
  · rename_i b off len cut
    split
    · rename_i el r tail frz plain hg
      split
      · rename_i n hop
        intro R
        obtain ⟨_, hk, _, _⟩ := openOk_ok R hx hop
        refine ⟨?_, hx⟩
        have : c.κ b - cut ≠ 0 := by omega
        simp only [AV.conc]
        exact Lib.run_unsafeSliceData_row w types ty _ _ _ this
      · trivial
    · trivial
  · trivial

def evUnsafeString (P : Program) (pt : TypeId) (x n : AV) (h : Tr Obj) (nx : Pos) : Rs :=
  match idxN n with
  | some 0 => match x with
    | .nilp => .val (.str 0 0) h nx
    | .ptr _ _ => .val (.str 0 0) h nx
    | _ => .fail
  | some (n + 1) => match x, P.underlying pt with
    | .ptr b off, some (.pointer e) => match h.get b, Nat.ble (n + 1) 4611686018427387904 with
      | some (.row el r tail 0 true), true => match Nat.beq el e, Nat.beq (P.cellsOf e) 1, rowBytes r off (n + 1) with
        | true, true, some d => Tr.setK b (.row el r tail (Nat.add off (n + 1)) false) h fun h' => .val (.str (n + 1) d) h' nx
        | _, _, _ => .fail
      | _, _ => .fail
    | _, _ => .fail
  | none => .fail

theorem run_variablesAt_bytes (u : TypeId) (hu : P.cellsOf u = 1) (b off m n : Nat) (hs : w.shape? b = some (u, n)) (hn : off + m ≤ n) : (variablesAt ⟨b, off, none⟩ u m).run P w = .ok true w := by
  simp only [variablesAt, Sem.run_bind, run_program, Result.andThen_ok, run_shape, hs, Sem.run_pure]
  have hd : P.depth = (2 * (P.types.size + Made.depth) + 1) + 1 := rfl
  have : liesAt P P.depth u (n / P.cellsOf u) off u m = true := by
    rw [hd, liesAt]
    have : rowAt P (sameLayout P P.depth · u) P.depth u (n / P.cellsOf u) off m = true := by
      rw [hd, Go.rowAt]
      have hsl : sameLayout P (2 * (P.types.size + Made.depth) + 1 + 1) u u = true := by
        rw [sameLayout]; simp
      rw [if_neg (by omega)]
      simp only [hu, Nat.div_one, Nat.mod_one, beq_self_eq_true, Bool.true_and, hsl, Bool.and_true, Bool.or_eq_true, decide_eq_true_eq]
      left; omega
    rw [this]; rfl
  rw [this]

theorem run_loadBytes (b : Nat) (d : Nat) : ∀ (n off i : Nat) (acc : ByteArray), (∀ j, j < n → w.cell? ⟨b, off + j, none⟩ = some (.int .u8 ((byteAt d (i + j)).toNat : Int))) →
    (Go.loadBytes ⟨b, off, none⟩ acc n).run P w = .ok ⟨acc.data ++ ((List.range n).map fun j => byteAt d (i + j)).toArray⟩ w
  | 0, off, i, acc, _ => by simp [Go.loadBytes]
  | n + 1, off, i, acc, hc => by
    have h0 := hc 0 (by omega)
    simp only [Nat.add_zero] at h0
    rw [Go.loadBytes]
    simp only [Sem.run_bind, run_load, h0, Result.andThen_ok, addr_add]
    rw [run_loadBytes b d n (off + 1) (i + 1) _ (fun j hj => by
      have := hc (j + 1) (by omega)
      simpa [Nat.add_assoc, Nat.add_comm, Nat.add_left_comm] using this)]
    congr 2
    apply Array.ext'
    rw [List.range_succ_eq_map]
    simp [ByteArray.push, Function.comp_def, Nat.add_assoc, Nat.add_comm, Nat.add_left_comm]

theorem evUnsafeString_ok {pt : TypeId} {types : Array TypeId} (ty : TypeId) (x n : AV) (ht : types[0]? = some pt) (hx : x.all c.L) (R : Rel σ P gv c h nx w) :
    OpOk σ P gv (Builtin.unsafeString_ types ty #[x.conc σ c, n.conc σ c]) c h nx w (evUnsafeString P pt x n h nx) := by
  unfold evUnsafeString
  split
  · rename_i hn
    obtain ⟨k, hk⟩ := idxN_ok hn σ c
    split
    · refine OpOk.same R ?_ trivial
      simp only [AV.conc, hk]
      show Sem.run P (asInt _ >>= _) _ = _
      simp [ht, asInt, asIntOf, IntKind.max, IntKind.bits, IntKind.signed]
      rfl
    · refine OpOk.same R ?_ trivial
      simp only [AV.conc, hk]
      show Sem.run P (asInt _ >>= _) _ = _
      simp [ht, asInt, asIntOf, IntKind.max, IntKind.bits, IntKind.signed]
      rfl
    · trivial
  · rename_i n hn
    obtain ⟨k, hk⟩ := idxN_ok hn σ c
    split
    · rename_i b off e hu
      split
      · rename_i el r tail hg hle
        have hle := Nat.le_of_ble_eq_true hle
        split
        · rename_i d hel hc1 hrb
          have hel := Nat.eq_of_beq_eq_true hel
          have hc1 := Nat.eq_of_beq_eq_true hc1
          subst hel
          rw [Tr.setK_eq]
          obtain ⟨m, hs, hm⟩ := R.shape hx hg
          have hcells := rowBytes_ok (σ := σ) (c := c) hrb
          have hoff : off + (n + 1) ≤ r.toList.length := by
            have := hcells n (by omega)
            cases hv : r.toList[off + n]? with
            | none => rw [hv] at this; cases this
            | some v => have := (List.getElem?_eq_some_iff.1 hv).1; omega
          have hload := run_loadBytes (P := P) (w := w) (c.ρ b) d (n + 1) off 0 ByteArray.empty (fun j hj => by
            have h1 := hcells j hj
            cases hv : r.toList[off + j]? with
            | none => rw [hv] at h1; cases h1
            | some v =>
              rw [hv, Option.map_some] at h1
              rw [R.cell hx hg hv, h1, Nat.zero_add])
          obtain ⟨rest, fz, g1, g2, g3, g4, g5⟩ := R.obj b _ hx hg
          obtain rfl := g3 rfl
          have hcl := R.closed b _ hx hg
          obtain ⟨R1, E1⟩ := R.upd (o' := .row el r tail (Nat.add off (n + 1)) false) (w' := w.freeze ⟨c.ρ b, off, none⟩ (n + 1)) hx hg (fun _ => rfl)
            (by simp [World.freeze]) (fun i hi => by simp [World.freeze, Array.getElem?_modify, Ne.symm hi]) (.inl rfl)
            ⟨rest, (off, off + (n + 1)), by simp [World.freeze, Array.getElem?_modify, g1], g2, by simp, by
              intro o h1 h2
              have h1 : off + (n + 1) ≤ o := h1
              simp; omega, g5⟩ hcl (by simp [World.freeze]) (by simp [World.freeze]) (by simp [World.freeze])
          refine ⟨c, _, ?_, R1, E1, trivial⟩
          have hbig : ¬ (((n + 1 : Nat) : Int) > IntKind.i64.max) := by
            have : IntKind.i64.max = 9223372036854775807 := rfl
            omega
          have hneg : ¬ (((n + 1 : Nat) : Int) < 0) := by omega
          have hne : ¬ (((n + 1 : Nat) : Int) = 0) := by omega
          have hel2 : (elemOf pt).run P w = .ok el w := by simp [elemOf, run_underlying hu]
          simp only [AV.conc, hk]
          show Sem.run P (asInt (.int k ((n.succ : Nat) : Int)) >>= _) _ = _
          have ha : (asInt (.int k ((n.succ : Nat) : Int))).run P w = .ok ((n + 1 : Nat) : Int) w := rfl
          rw [Sem.run_bind, ha, Result.andThen_ok]
          simp only [Sem.run_bind, Sem.run_pure, Result.andThen_ok, ht, if_neg hneg, if_neg hbig, Sem.run_ite, if_neg hne, hel2, Int.toNat_natCast,
            run_variablesAt_bytes el hc1 (c.ρ b) off (n + 1) m hs (by omega), if_true, hload, run_freeze]
          congr 2
          unfold textOf bytesOf
          simp
        · trivial
      · trivial
    · trivial
  · trivial

def evIface (P : Program) (t : TypeId) (x : AV) : Option AV := match P.concrete t with
  | true => some (.iface t x)
  | false => none

end
end
end Go.Ev
