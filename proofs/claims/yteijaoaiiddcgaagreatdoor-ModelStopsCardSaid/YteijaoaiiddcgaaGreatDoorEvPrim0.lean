/- Reading, writing and making blocks: what it does to the world that a memory stands for. -/
import Derived.Test.YteijaoaiiddcgaaGreatDoorEvCore0
namespace Go.Ev
open Go

@[simp] theorem addr_add (b off n : Nat) : (⟨b, off, none⟩ : Addr).add n = ⟨b, off + n, none⟩ := by
  unfold Addr.add; split
  · simp [*]
  · rfl

def Cx.add (c : Cx) (b : Pos) (i k : Nat) : Cx := { ρ := fun x => if x = b then i else c.ρ x, κ := fun x => if x = b then k else c.κ x, L := fun x => x = b ∨ c.L x }

theorem Obj.all_mono {p q : Pos → Prop} (h : ∀ b, p b → q b) : ∀ o : Obj, o.all p → o.all q
  | .row _ r _ _ _, ho => ⟨AV.allL_mono h r.toList ho.1, ho.2⟩
  | .map _, ho => fun x hx => ⟨AV.all_mono h _ (ho x hx).1, AV.all_mono h _ (ho x hx).2⟩
  | .iter (some m) _ _ _, ho => h m ho
  | .iter none _ _ _, _ => trivial
  | .bag _, _ => trivial
  | .dead, _ => trivial

theorem entriesOf_agree {σ : Nat → Value} {p : Pos → Prop} {c d : Cx} (h : Cx.agree p c d) (es : List (AV × AV)) (ho : ∀ x ∈ es, x.1.all p ∧ x.2.all p) :
    entriesOf σ d es = entriesOf σ c es := by
  unfold entriesOf
  refine List.map_congr_left fun x hx => ?_
  have hm : x.1 ∈ es := by
    have := List.fst_mem_of_mem_zipIdx hx
    exact this
  rw [AV.conc_agree h _ (ho _ hm).1, AV.conc_agree h _ (ho _ hm).2]

theorem Obj.is_agree {σ : Nat → Value} {P : Program} {p : Pos → Prop} {c d : Cx} (h : Cx.agree p c d) {b : Pos} (hb : p b) {o : Obj} {x : Option Go.Obj}
    (ho : o.all p) (hi : o.is σ c P b x) : o.is σ d P b x := by
  cases o with
  | row elem r tail frz plain =>
    obtain ⟨rest, fz, h1, h2, h3, h4, h5⟩ := hi
    refine ⟨rest, fz, ?_, h2, h3, h4, ?_⟩
    · rw [AV.concL_agree h _ ho.1]; exact h1
    · intro ht; rw [(h b hb).2]; exact h5 ht
  | map es => simp only [Obj.is] at hi ⊢; rw [entriesOf_agree h es ho]; exact hi
  | iter m since seen stepped =>
    simp only [Obj.is] at hi ⊢
    cases m with
    | none => exact hi
    | some m => simp only [Option.map_some] at hi ⊢; rw [(h m ho).1]; exact hi
  | bag ks => exact hi
  | dead => trivial

section
variable {σ : Nat → Value} {P : Program} {gv : Nat → Option Pos} {c : Cx} {h : Tr Obj} {nx : Pos} {w : World}

theorem Rel.ne_nx (R : Rel σ P gv c h nx w) {b : Pos} (hb : c.L b) : b ≠ nx := fun e => by have := R.lt b hb; rw [e] at this; omega

theorem Rel.agree_add (R : Rel σ P gv c h nx w) (i k : Nat) : Cx.agree c.L c (c.add nx i k) := fun b hb => by simp [Cx.add, R.ne_nx hb]

/-- What another place of the world holds turns one object alone. -/
theorem Rel.upd (R : Rel σ P gv c h nx w) {b : Pos} {o o' : Obj} {w' : World} (hb : c.L b) (ho : h.get b = some o) (hl : o'.live = true → o.live = true)
    (hs : w'.heap.size = w.heap.size) (hoth : ∀ i, i ≠ c.ρ b → w'.heap[i]? = w.heap[i]?) (hl2 : o.live = true ∨ w' = w)
    (his : o'.is σ c P b w'.heap[c.ρ b]?) (hall : o'.all c.L) (hos : w'.os = w.os) (hout : w'.output = w.output) (htp : w'.tape = w.tape) :
    Rel σ P gv c (h.set b o') nx w' ∧ Ext c h nx w c (h.set b o') nx w' := by
  refine ⟨⟨R.lt, fun x hx => by rw [hs]; exact R.le x hx, ?_, ?_, ?_, ?_, R.glob, R.sc⟩, ⟨Nat.le_refl _, fun _ h => h, fun _ _ => ⟨rfl, rfl⟩, fun _ h1 h2 => absurd h1 h2, ?_, by omega, ?_, fun _ h1 h2 => absurd h1 h2, hos, hout, htp⟩⟩
  · intro x ox hx hg
    rw [Tr.get_set] at hg
    split at hg
    · rename_i e; cases hg; subst e; exact his
    · rename_i e
      have h1 := R.obj x ox hx hg
      rcases hl2 with hl2 | rfl
      · cases hlx : ox.live with
        | false => cases ox <;> simp [Obj.live] at hlx; trivial
        | true =>
          rw [hoth _ fun e2 => e (R.inj x b ox o hx hb hg ho hlx hl2 e2)]; exact h1
      · exact h1
  · intro x x' ox ox' hx hx' hg hg' hlx hlx' he
    rw [Tr.get_set] at hg hg'
    have f1 : ∃ q, h.get x = some q ∧ q.live = true := by
      split at hg
      · rename_i e; cases hg; subst e; exact ⟨o, ho, hl hlx⟩
      · exact ⟨ox, hg, hlx⟩
    have f2 : ∃ q, h.get x' = some q ∧ q.live = true := by
      split at hg'
      · rename_i e; cases hg'; subst e; exact ⟨o, ho, hl hlx'⟩
      · exact ⟨ox', hg', hlx'⟩
    obtain ⟨q, h1, h2⟩ := f1
    obtain ⟨q', h1', h2'⟩ := f2
    exact R.inj x x' q q' hx hx' h1 h1' h2 h2' he
  · intro x ox hx hg
    rw [Tr.get_set] at hg
    split at hg
    · cases hg; exact hall
    · exact R.closed x ox hx hg
  · intro x hx
    rw [Tr.get_set]
    split
    · rename_i e; subst e; have := R.lt _ hb; omega
    · exact R.dom x hx
  · intro x hx hn
    rw [Tr.get_set, if_neg (by rintro rfl; exact hn hb)]
  · intro i hi hn
    exact hoth i fun e => hn b hb e.symm

/-- An object is let go. -/
theorem Rel.kill (R : Rel σ P gv c h nx w) {b : Pos} {o : Obj} (hb : c.L b) (ho : h.get b = some o) :
    Rel σ P gv c (h.set b .dead) nx w ∧ Ext c h nx w c (h.set b .dead) nx w :=
  R.upd hb ho (fun h => by simp [Obj.live] at h) rfl (fun _ _ => rfl) (.inr rfl) trivial trivial rfl rfl rfl

/-- A new number, for a new block, or for one that no number that is used stands for. -/
theorem Rel.add (R : Rel σ P gv c h nx w) (i k : Nat) (o : Obj) (w' : World) (hi : i = w.heap.size ∨ ∃ b0, c.L b0 ∧ c.ρ b0 = i)
    (hfree : ∀ b o', c.L b → h.get b = some o' → o'.live = true → c.ρ b ≠ i) (hsz : w.heap.size ≤ w'.heap.size) (hlt : i < w'.heap.size)
    (hoth : ∀ j, j < w.heap.size → j ≠ i → w'.heap[j]? = w.heap[j]?) (his : o.is σ (c.add nx i k) P nx w'.heap[i]?) (hall : o.all c.L)
    (hos : w'.os = w.os) (hout : w'.output = w.output) (htp : w'.tape = w.tape) :
    Rel σ P gv (c.add nx i k) (h.set nx o) nx.succ w' ∧ Ext c h nx w (c.add nx i k) (h.set nx o) nx.succ w' := by
  have hag := R.agree_add i k
  have hρ : ∀ b, c.L b → (c.add nx i k).ρ b = c.ρ b := fun b hb => (hag b hb).1
  have hn : (c.add nx i k).ρ nx = i := by simp [Cx.add]
  refine ⟨⟨?_, ?_, ?_, ?_, ?_, ?_, ?_, R.sc⟩, ⟨by rw [Pos.num_succ]; omega, fun b hb => .inr hb, hag, ?_, ?_, hsz, ?_, ?_, hos, hout, htp⟩⟩
  · rintro b (rfl | hb)
    · rw [Pos.num_succ]; omega
    · rw [Pos.num_succ]; have := R.lt b hb; omega
  · rintro b (rfl | hb)
    · rw [hn]; exact hlt
    · rw [hρ b hb]; have := R.le b hb; omega
  · rintro b ob (rfl | hb) hg
    · rw [Tr.get_set, if_pos rfl] at hg
      cases hg; rw [hn]; exact his
    · rw [Tr.get_set, if_neg (R.ne_nx hb)] at hg
      have h1 := R.obj b ob hb hg
      rw [hρ b hb]
      have h2 := Obj.is_agree (P := P) hag hb (R.closed b ob hb hg) h1
      cases hlx : ob.live with
      | false => cases ob <;> simp [Obj.live] at hlx; trivial
      | true => rw [hoth _ (R.le b hb) (hfree b ob hb hg hlx)]; exact h2
  · rintro b b' ob ob' (rfl | hb) (rfl | hb') hg hg' hl hl' he
    · rfl
    · rw [Tr.get_set, if_neg (R.ne_nx hb')] at hg'
      rw [hn, hρ _ hb'] at he
      exact absurd he.symm (hfree b' ob' hb' hg' hl')
    · rw [Tr.get_set, if_neg (R.ne_nx hb)] at hg
      rw [hn, hρ _ hb] at he
      exact absurd he (hfree b ob hb hg hl)
    · rw [Tr.get_set, if_neg (R.ne_nx hb)] at hg
      rw [Tr.get_set, if_neg (R.ne_nx hb')] at hg'
      rw [hρ _ hb, hρ _ hb'] at he
      exact R.inj b b' ob ob' hb hb' hg hg' hl hl' he
  · rintro b ob (rfl | hb) hg
    · rw [Tr.get_set, if_pos rfl] at hg
      cases hg; exact Obj.all_mono (fun x hx => .inr hx) _ hall
    · rw [Tr.get_set, if_neg (R.ne_nx hb)] at hg
      exact Obj.all_mono (fun x hx => .inr hx) _ (R.closed b ob hb hg)
  · intro b hb
    rw [Pos.num_succ] at hb
    rw [Tr.get_set, if_neg fun e => by rw [e] at hb; omega]
    exact R.dom b (by omega)
  · intro g b hg
    obtain ⟨h1, h2⟩ := R.glob g b hg
    exact ⟨.inr h1, by rw [hρ b h1]; exact h2⟩
  · rintro b (rfl | hb) hnb
    · exact Nat.le_refl _
    · exact absurd hb hnb
  · intro b hb hnb
    rw [Tr.get_set, if_neg fun e => by rw [e] at hb; omega]
  · intro j hj hnj
    refine hoth j hj fun e => ?_
    rcases hi with hi | ⟨b0, h1, h2⟩
    · omega
    · exact hnj b0 h1 (by omega)
  · rintro b (rfl | hb) hnb
    · rw [hn]
      rcases hi with hi | ⟨b0, h1, h2⟩
      · left; omega
      · right; exact ⟨b0, h1, h2⟩
    · exact absurd hb hnb

/-- A new block. -/
theorem Rel.alloc (R : Rel σ P gv c h nx w) (k : Nat) (o : Obj) (x : Go.Obj) (his : o.is σ (c.add nx w.heap.size k) P nx (some x)) (hall : o.all c.L) :
    Rel σ P gv (c.add nx w.heap.size k) (h.set nx o) nx.succ (w.alloc x) ∧ Ext c h nx w (c.add nx w.heap.size k) (h.set nx o) nx.succ (w.alloc x) :=
  R.add w.heap.size k o (w.alloc x) (.inl rfl) (fun b _ hb _ _ => Nat.ne_of_lt (R.le b hb)) (by simp) (by simp)
    (fun j hj _ => by show (w.heap.push x)[j]? = _; rw [Array.getElem?_push, if_neg (Nat.ne_of_lt hj)])
    (by show o.is σ _ P nx (w.heap.push x)[w.heap.size]?; rw [Array.getElem?_push, if_pos rfl]; exact his) hall rfl rfl rfl

theorem Rel.drew (R : Rel σ P gv c h nx w) : Rel σ P gv c h nx w.drew ∧ Ext c h nx w c h nx w.drew :=
  ⟨⟨R.lt, R.le, R.obj, R.inj, R.closed, R.dom, R.glob, R.sc⟩, ⟨Nat.le_refl _, fun _ h => h, fun _ _ => ⟨rfl, rfl⟩, fun _ h1 h2 => absurd h1 h2, fun _ _ _ => rfl, Nat.le_refl _, fun _ _ _ => rfl, fun _ h1 h2 => absurd h1 h2, rfl, rfl, rfl⟩⟩

/-- A cell of a row. -/
theorem Rel.cell (R : Rel σ P gv c h nx w) {b : Pos} {elem : TypeId} {r : Row} {tail : Bool} {frz : Nat} {plain : Bool} (hb : c.L b)
    (ho : h.get b = some (.row elem r tail frz plain)) {off : Nat} {v : AV} (hv : r.toList[off]? = some v) :
    w.cell? ⟨c.ρ b, off, none⟩ = some (v.conc σ c) := by
  obtain ⟨rest, fz, h1, _⟩ := R.obj b _ hb ho
  have hlt : off < r.toList.length := by
    rcases Nat.lt_or_ge off r.toList.length with h | h
    · exact h
    · rw [List.getElem?_eq_none h] at hv; cases hv
  simp only [World.cell?, h1]
  rw [AV.concL_map, List.getElem?_toArray, List.getElem?_append_left (by simpa using hlt), List.getElem?_map, hv]
  rfl

theorem Rel.all_cell (R : Rel σ P gv c h nx w) {b : Pos} {elem : TypeId} {r : Row} {tail : Bool} {frz : Nat} {plain : Bool} (hb : c.L b)
    (ho : h.get b = some (.row elem r tail frz plain)) {v : AV} (hv : v ∈ r.toList) : v.all c.L :=
  (AV.allL_iff _ _).1 (R.closed b _ hb ho).1 v hv

theorem Rel.shape (R : Rel σ P gv c h nx w) {b : Pos} {elem : TypeId} {r : Row} {tail : Bool} {frz : Nat} {plain : Bool} (hb : c.L b)
    (ho : h.get b = some (.row elem r tail frz plain)) : ∃ n, w.shape? (c.ρ b) = some (elem, n) ∧ r.toList.length ≤ n := by
  obtain ⟨rest, fz, h1, _⟩ := R.obj b _ hb ho
  refine ⟨(AV.concL σ c r.toList).length + rest.length, ?_, ?_⟩
  · simp only [World.shape?, h1, List.size_toArray, List.length_append]
  · rw [AV.concL_map, List.length_map]; omega

theorem run_loadCellsFrom (w : World) (b off : Nat) : ∀ (n i : Nat) (acc : Array Value) (vs : List Value), vs.length = n →
    (∀ j, j < n → w.cell? ⟨b, off + i + j, none⟩ = vs[j]?) → (loadCellsFrom ⟨b, off, none⟩ i n acc).run P w = .ok (acc ++ vs.toArray) w
  | 0, i, acc, vs, hl, _ => by
    have : vs = [] := List.eq_nil_of_length_eq_zero hl
    subst this
    simp [loadCellsFrom]
  | n + 1, i, acc, vs, hl, hc => by
    cases vs with
    | nil => simp at hl
    | cons v vs =>
      have h0 := hc 0 (by omega)
      simp only [Nat.add_zero, List.getElem?_cons_zero] at h0
      rw [loadCellsFrom]
      simp only [Sem.run_bind, addr_add, run_load, h0, Result.andThen_ok]
      rw [run_loadCellsFrom w b off n (i + 1) (acc.push v) vs (by simpa using hl)]
      · congr 1; apply Array.ext'; simp
      · intro j hj
        have := hc (j + 1) (by omega)
        simpa [Nat.add_assoc, Nat.add_comm, Nat.add_left_comm] using this

theorem Rel.loadCells (R : Rel σ P gv c h nx w) {b : Pos} {elem : TypeId} {r : Row} {tail : Bool} {frz : Nat} {plain : Bool} (hb : c.L b)
    (ho : h.get b = some (.row elem r tail frz plain)) {off : Nat} {vs : List AV} (hv : ∀ j, j < vs.length → r.toList[off + j]? = vs[j]?) :
    (Go.loadCells ⟨c.ρ b, off, none⟩ vs.length).run P w = .ok (AV.concL σ c vs).toArray w := by
  unfold Go.loadCells
  rw [run_loadCellsFrom w (c.ρ b) off vs.length 0 #[] (AV.concL σ c vs) (by simp [AV.concL_map])]
  · simp
  · intro j hj
    have h1 := hv j hj
    have h2 : vs[j]? = some vs[j] := List.getElem?_eq_getElem hj
    rw [Nat.add_zero, R.cell hb ho (h1.trans h2)]
    simp [AV.concL_map, h2]
end
end Go.Ev
