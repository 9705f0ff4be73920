/- Values and memory of a deterministic machine, and what they stand for in a world of the model. -/
import Derived.Test.YteijaoaiiddcgaaGreatDoorEvTree0
import Derived.Laws.Sem
import Derived.Laws.World
namespace Go.Ev

inductive AV where
  | undef
  | bool (b : Bool)
  | int (k : IntKind) (u : Nat)
  | str (n c : Nat)
  | nilp
  | ptr (b : Pos) (off : Nat)
  | nils
  | slice (b : Pos) (off len cap : Nat)
  | sliceU (b : Pos) (off len cut : Nat)
  | sliceZ (b : Pos) (off step cut : Nat) (open_ : Bool)
  | nilm
  | map (b : Pos)
  | func (fn : Fn) (first caps : List AV)
  | nilf
  | iface (t : TypeId) (v : AV)
  | nili
  | agg (l : List AV)
  | tup (l : List AV)
  | sym (i : Nat)

/-- The byte of a coded text at a place. -/
def byteAt (c i : Nat) : UInt8 := UInt8.ofNat (Nat.mod (Nat.shiftRight c (Nat.mul 8 i)) 256)
def bytesOf (n c : Nat) : List UInt8 := (List.range n).map (byteAt c)
def textOf (n c : Nat) : ByteArray := ⟨(bytesOf n c).toArray⟩

/-- Where numbers of blocks stand in a world, how great open slices are, which numbers are there; what stands for signs. -/
structure Cx where
  ρ : Pos → Nat
  κ : Pos → Nat
  L : Pos → Prop

mutual
def AV.conc (σ : Nat → Value) (c : Cx) : AV → Value
  | .undef => .tuple #[]
  | .bool b => .bool b
  | .int k u => .int k (k.wrap u)
  | .str n x => .string (textOf n x)
  | .nilp => .pointer none
  | .ptr b off => .pointer (some ⟨c.ρ b, off, none⟩)
  | .nils => .slice none 0 0
  | .slice b off len cap => .slice (some ⟨c.ρ b, off, none⟩) len cap
  | .sliceU b off len cut => .slice (some ⟨c.ρ b, off, none⟩) len (c.κ b - cut)
  | .sliceZ b off step cut open_ => .slice (some ⟨c.ρ b, if c.κ b = cut then off else off + step, none⟩) 0 (if open_ then c.κ b - cut else 0)
  | .nilm => .map none
  | .map b => .map (some (c.ρ b))
  | .func fn first caps => .func fn (AV.concL σ c first).toArray (AV.concL σ c caps).toArray
  | .nilf => .nilFunc
  | .iface t v => .iface t (AV.conc σ c v)
  | .nili => .nilIface
  | .agg l => .agg (AV.concL σ c l).toArray
  | .tup l => .tuple (AV.concL σ c l).toArray
  | .sym i => σ i
def AV.concL (σ : Nat → Value) (c : Cx) : List AV → List Value
  | [] => []
  | v :: l => AV.conc σ c v :: AV.concL σ c l
end

theorem AV.concL_map (σ : Nat → Value) (c : Cx) : ∀ l : List AV, AV.concL σ c l = l.map (AV.conc σ c)
  | [] => rfl
  | v :: l => by rw [AV.concL, AV.concL_map σ c l, List.map_cons]

/-- One cell's value. -/
def AV.scalar : AV → Bool
  | .undef => false
  | .agg _ => false
  | .tup _ => false
  | _ => true

mutual
/-- Every number of a block in a value is such; an aggregate's cells are single. -/
def AV.all (p : Pos → Prop) : AV → Prop
  | .ptr b _ => p b
  | .slice b _ _ _ => p b
  | .sliceU b _ _ _ => p b
  | .sliceZ b _ _ _ _ => p b
  | .map b => p b
  | .func _ first caps => AV.allL p first ∧ AV.allL p caps
  | .iface _ v => AV.all p v
  | .agg l => AV.allL p l ∧ l.all AV.scalar = true
  | .tup l => AV.allL p l
  | _ => True
def AV.allL (p : Pos → Prop) : List AV → Prop
  | [] => True
  | v :: l => AV.all p v ∧ AV.allL p l
end

theorem AV.allL_iff (p : Pos → Prop) : ∀ l : List AV, AV.allL p l ↔ ∀ v ∈ l, v.all p
  | [] => by simp [AV.allL]
  | v :: l => by simp [AV.allL, AV.allL_iff p l]

mutual
theorem AV.all_mono {p q : Pos → Prop} (h : ∀ b, p b → q b) : ∀ v : AV, v.all p → v.all q
  | .undef, _ | .bool _, _ | .int _ _, _ | .str _ _, _ | .nilp, _ | .nils, _ | .nilm, _ | .nilf, _ | .nili, _ | .sym _, _ => trivial
  | .ptr b _, hv | .slice b _ _ _, hv | .sliceU b _ _ _, hv | .sliceZ b _ _ _ _, hv | .map b, hv => h b hv
  | .func _ f c, hv => ⟨AV.allL_mono h f hv.1, AV.allL_mono h c hv.2⟩
  | .iface _ v, hv => AV.all_mono h v hv
  | .agg l, hv => ⟨AV.allL_mono h l hv.1, hv.2⟩
  | .tup l, hv => AV.allL_mono h l hv
theorem AV.allL_mono {p q : Pos → Prop} (h : ∀ b, p b → q b) : ∀ l : List AV, AV.allL p l → AV.allL q l
  | [], _ => trivial
  | v :: l, hv => ⟨AV.all_mono h v hv.1, AV.allL_mono h l hv.2⟩
end

/-- Two readings of numbers of blocks agree where p holds. -/
def Cx.agree (p : Pos → Prop) (c d : Cx) : Prop := ∀ b, p b → d.ρ b = c.ρ b ∧ d.κ b = c.κ b

mutual
theorem AV.conc_agree {σ : Nat → Value} {p : Pos → Prop} {c d : Cx} (h : Cx.agree p c d) : ∀ v : AV, v.all p → AV.conc σ d v = AV.conc σ c v
  | .undef, _ | .bool _, _ | .int _ _, _ | .str _ _, _ | .nilp, _ | .nils, _ | .nilm, _ | .nilf, _ | .nili, _ | .sym _, _ => rfl
  | .ptr b _, hv => by simp only [AV.conc, (h b hv).1]
  | .slice b _ _ _, hv => by simp only [AV.conc, (h b hv).1]
  | .sliceU b _ _ _, hv => by simp only [AV.conc, (h b hv).1, (h b hv).2]
  | .sliceZ b _ _ _ _, hv => by simp only [AV.conc, (h b hv).1, (h b hv).2]
  | .map b, hv => by simp only [AV.conc, (h b hv).1]
  | .func _ f c, hv => by simp only [AV.conc, AV.concL_agree h f hv.1, AV.concL_agree h c hv.2]
  | .iface _ v, hv => by simp only [AV.conc, AV.conc_agree h v hv]
  | .agg l, hv => by simp only [AV.conc, AV.concL_agree h l hv.1]
  | .tup l, hv => by simp only [AV.conc, AV.concL_agree h l hv]
theorem AV.concL_agree {σ : Nat → Value} {p : Pos → Prop} {c d : Cx} (h : Cx.agree p c d) : ∀ l : List AV, AV.allL p l → AV.concL σ d l = AV.concL σ c l
  | [], _ => rfl
  | v :: l, hv => by simp only [AV.concL, AV.conc_agree h v hv.1, AV.concL_agree h l hv.2]
end

/-- A row of cells: one by one, or bytes as a number. -/
inductive Row where
  | cs (x : List AV)
  | bs (n c : Nat)

def Row.toList : Row → List AV
  | .cs x => x
  | .bs n c => (List.range n).map fun i => .int .u8 (Nat.mod (Nat.shiftRight c (Nat.mul 8 i)) 256)

inductive Obj where
  | row (elem : TypeId) (r : Row) (tail : Bool) (frz : Nat) (plain : Bool)
  | map (es : List (AV × AV))
  | iter (m : Option Pos) (since : Nat) (seen : List Nat) (stepped : Nat)
  | bag (ks : List (Nat × Nat))
  | dead

def Obj.live : Obj → Bool
  | .dead => false
  | _ => true

def Obj.all (p : Pos → Prop) : Obj → Prop
  | .row _ r _ _ _ => AV.allL p r.toList ∧ r.toList.all AV.scalar = true
  | .map es => ∀ x ∈ es, x.1.all p ∧ x.2.all p
  | .iter (some m) _ _ _ => p m
  | .iter none _ _ _ => True
  | .bag _ => True
  | .dead => True

/-- Of a map of texts to true, whatever the order: just these texts. -/
structure BagOk (l : List MapEntry) (clock : Nat) (ks : List (Nat × Nat)) : Prop where
  vals : ∀ e ∈ l, e.val = .bool true
  born : ∀ e ∈ l, e.born < clock
  keys : ∀ e ∈ l, ∃ q ∈ ks, e.key = .string (textOf q.1 q.2)
  all : ∀ q ∈ ks, ∃ e ∈ l, e.key = .string (textOf q.1 q.2)
  apart : (l.map (·.born)).Nodup

def entriesOf (σ : Nat → Value) (c : Cx) (es : List (AV × AV)) : List MapEntry :=
  es.zipIdx.map fun x => { key := x.1.1.conc σ c, val := x.1.2.conc σ c, born := x.2 }

/-- What an object is in a world. -/
def Obj.is (σ : Nat → Value) (c : Cx) (P : Program) (b : Pos) : Obj → Option Go.Obj → Prop
  | .row elem r tail frz plain, o =>
    ∃ rest fz, o = some (.cells ((AV.concL σ c r.toList) ++ rest).toArray elem fz) ∧ (tail = false → rest = []) ∧
      (plain = true → fz = (0, 0)) ∧ (∀ off, frz ≤ off → off < r.toList.length + rest.length → (fz.1 ≤ off && off < fz.2) = false) ∧
      (tail = true → c.κ b * P.cellsOf elem = r.toList.length + rest.length)
  | .map es, o => o = some (.map (entriesOf σ c es).toArray es.length)
  | .iter m since seen stepped, o => o = some (.mapIter (m.map c.ρ) since seen.toArray stepped)
  | .bag ks, o => ∃ l clock, o = some (.map l.toArray clock) ∧ BagOk l clock ks
  | .dead, _ => True

structure Rel (σ : Nat → Value) (P : Program) (gv : Nat → Option Pos) (c : Cx) (h : Tr Obj) (nx : Pos) (w : World) : Prop where
  lt : ∀ b, c.L b → b.num < nx.num
  le : ∀ b, c.L b → c.ρ b < w.heap.size
  obj : ∀ b o, c.L b → h.get b = some o → o.is σ c P b w.heap[c.ρ b]?
  inj : ∀ b b' o o', c.L b → c.L b' → h.get b = some o → h.get b' = some o' → o.live = true → o'.live = true → c.ρ b = c.ρ b' → b = b'
  closed : ∀ b o, c.L b → h.get b = some o → o.all c.L
  dom : ∀ b, nx.num ≤ b.num → h.get b = none
  glob : ∀ g b, gv g = some b → c.L b ∧ c.ρ b = g
  sc : ∀ i, (σ i).oneCell' = true

/-- What has become of the world, and of the numbers of blocks. -/
structure Ext (c : Cx) (h : Tr Obj) (nx : Pos) (w : World) (c' : Cx) (h' : Tr Obj) (nx' : Pos) (w' : World) : Prop where
  grow : nx.num ≤ nx'.num
  sub : ∀ b, c.L b → c'.L b
  agree : Cx.agree c.L c c'
  fresh : ∀ b, c'.L b → ¬ c.L b → nx.num ≤ b.num
  frame : ∀ b, b.num < nx.num → ¬ c.L b → h'.get b = h.get b
  size : w.heap.size ≤ w'.heap.size
  heap : ∀ i, i < w.heap.size → (∀ b, c.L b → c.ρ b ≠ i) → w'.heap[i]? = w.heap[i]?
  new : ∀ b, c'.L b → ¬ c.L b → w.heap.size ≤ c'.ρ b ∨ ∃ b0, c.L b0 ∧ c.ρ b0 = c'.ρ b
  os : w'.os = w.os
  output : w'.output = w.output
  tape : w'.tape = w.tape

theorem Ext.refl (c : Cx) (h : Tr Obj) (nx : Pos) (w : World) : Ext c h nx w c h nx w :=
  ⟨Nat.le_refl _, fun _ h => h, fun _ _ => ⟨rfl, rfl⟩, fun _ h h' => absurd h h', fun _ _ _ => rfl, Nat.le_refl _, fun _ _ _ => rfl, fun _ h h' => absurd h h', rfl, rfl, rfl⟩

theorem Ext.trans {c : Cx} {h : Tr Obj} {nx : Pos} {w : World} {c' : Cx} {h' : Tr Obj} {nx' : Pos} {w' : World} {c'' : Cx} {h'' : Tr Obj} {nx'' : Pos} {w'' : World}
    (a : Ext c h nx w c' h' nx' w') (b : Ext c' h' nx' w' c'' h'' nx'' w'') : Ext c h nx w c'' h'' nx'' w'' where
  grow := Nat.le_trans a.grow b.grow
  sub := fun x hx => b.sub x (a.sub x hx)
  agree := fun x hx => ⟨(b.agree x (a.sub x hx)).1.trans (a.agree x hx).1, (b.agree x (a.sub x hx)).2.trans (a.agree x hx).2⟩
  fresh := fun x hx hn => by
    rcases Classical.em (c'.L x) with h1 | h1
    · exact a.fresh x h1 hn
    · exact Nat.le_trans a.grow (b.fresh x hx h1)
  frame := fun x hx hn => by
    have h1 : ¬ c'.L x := fun h1 => by have := a.fresh x h1 hn; omega
    rw [b.frame x (Nat.lt_of_lt_of_le hx a.grow) h1, a.frame x hx hn]
  size := Nat.le_trans a.size b.size
  heap := fun i hi hn => by
    rw [b.heap i (Nat.lt_of_lt_of_le hi a.size) ?_, a.heap i hi hn]
    intro x hx he
    rcases Classical.em (c.L x) with h1 | h1
    · exact hn x h1 ((a.agree x h1).1.symm.trans he)
    · rcases a.new x hx h1 with h2 | ⟨b0, h2, h3⟩
      · omega
      · exact hn b0 h2 (h3.trans he)
  new := fun x hx hn => by
    rcases Classical.em (c'.L x) with h1 | h1
    · rcases a.new x h1 hn with h2 | ⟨b0, h2, h3⟩
      · left; rw [(b.agree x h1).1]; exact h2
      · right; exact ⟨b0, h2, h3.trans (b.agree x h1).1.symm⟩
    · rcases b.new x hx h1 with h2 | ⟨b0, h2, h3⟩
      · left; exact Nat.le_trans a.size h2
      · rcases Classical.em (c.L b0) with h4 | h4
        · right; exact ⟨b0, h4, (a.agree b0 h4).1.symm.trans h3⟩
        · rcases a.new b0 h2 h4 with h5 | ⟨b1, h5, h6⟩
          · left; omega
          · right; exact ⟨b1, h5, h6.trans h3⟩
  os := b.os.trans a.os
  output := b.output.trans a.output
  tape := b.tape.trans a.tape

theorem AV.oneCell {σ : Nat → Value} (hσ : ∀ i, (σ i).oneCell' = true) (c : Cx) (v : AV) (h : v.scalar = true) : (v.conc σ c).oneCell' = true := by
  cases v
  case sym i => exact hσ i
  all_goals first | (simp [AV.scalar] at h; done) | rfl

/-- The cells of a value that can be stored. -/
def AV.cells : AV → Option (List AV)
  | .undef => none
  | .tup _ => none
  | .agg l => some l
  | v => some [v]

theorem AV.cells_spec {σ : Nat → Value} (hσ : ∀ i, (σ i).oneCell' = true) (c : Cx) {p : Pos → Prop} {v : AV} {l : List AV} (h : v.cells = some l) (hv : v.all p) :
    (v.conc σ c).cells = (AV.concL σ c l).toArray ∧ AV.allL p l ∧ l.all AV.scalar = true := by
  cases v <;> simp only [AV.cells, Option.some.injEq, reduceCtorEq] at h <;> subst h
  case agg l => exact ⟨rfl, hv.1, hv.2⟩
  all_goals refine ⟨?_, ⟨hv, trivial⟩, by simp [AV.scalar]⟩
  case sym i =>
    have := hσ i
    simp only [AV.conc, AV.concL]
    cases e : σ i <;> simp [e, Value.oneCell'] at this <;> rfl
  all_goals rfl

end Go.Ev
