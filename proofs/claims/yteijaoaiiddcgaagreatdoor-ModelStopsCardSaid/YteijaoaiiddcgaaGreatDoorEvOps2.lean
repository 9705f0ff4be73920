/- Operations that leave memory alone, and stores. -/
import Derived.Test.YteijaoaiiddcgaaGreatDoorEvOps1
import Derived.Laws.Pointers
import Derived.Laws.Small
namespace Go.Ev
open Go

noncomputable section
section
variable {σ : Nat → Value} {P : Program} {gv : Nat → Option Pos} {c : Cx} {h : Tr Obj} {nx : Pos} {w : World}

def evLoad (P : Program) (h : Tr Obj) (t : TypeId) : AV → Option AV
  | .ptr b off => loadAt P h t b off
  | _ => none

theorem evLoad_ok (t : TypeId) (a : AV) (ha : a.all c.L) : OpPure σ P gv (Instr.loadAt t (a.conc σ c)) c h nx w (evLoad P h t a) := by
  cases a <;> try trivial
  case ptr b off =>
    show OpPure σ P gv _ c h nx w (loadAt P h t b off)
    cases e : loadAt P h t b off with
    | none => trivial
    | some v =>
      intro R
      have := loadAt_ok t b off ha e R
      simpa only [Instr.loadAt, AV.conc, Instr.sureAddr, pure_bind] using this

def evStore (P : Program) (t : TypeId) (a v : AV) (h : Tr Obj) (nx : Pos) : Rs :=
  match a with
  | .ptr b off => match h.get b, v.cells with
    | some (.row elem r tail frz plain), some l => match Nat.beq l.length (P.cellsOf t), P.info? t, Nat.ble frz off with
      | true, some _, true => spliceK off l r.toList (fun x => Tr.setK b (.row elem (.cs x) tail frz plain) h fun h' => .val .undef h' nx) .fail
      | _, _, _ => .fail
    | _, _ => .fail
  | _ => .fail

theorem evStore_ok (t : TypeId) (a v : AV) (ha : a.all c.L) (hv : v.all c.L) (R : Rel σ P gv c h nx w) :
    OpOk σ P gv (do Instr.storeAt t (a.conc σ c) (v.conc σ c); pure undef) c h nx w (evStore P t a v h nx) := by
  cases a <;> try trivial
  case ptr b off =>
    unfold evStore
    simp only
    cases e : Tr.get b h with
    | none => trivial
    | some o =>
      cases o <;> try trivial
      case row elem r tail frz plain =>
        cases e2 : v.cells with
        | none => trivial
        | some l =>
          simp only
          cases e3 : Nat.beq l.length (P.cellsOf t) with
          | false => trivial
          | true =>
            cases e4 : P.info? t with
            | none => trivial
            | some i =>
              cases e5 : Nat.ble frz off with
              | false => trivial
              | true =>
                simp only [spliceK_eq, Tr.setK_eq]
                have e3 := Nat.eq_of_beq_eq_true e3
                have e5 := Nat.le_of_ble_eq_true e5
                by_cases hl : off + l.length ≤ r.toList.length
                · rw [if_pos hl]
                  obtain ⟨h3, h4, h5⟩ := AV.cells_spec R.sc c e2 hv
                  obtain ⟨w', g1, g2, g3⟩ := R.store ha e e5 hl h4 h5 (r' := .cs (splice r.toList off l)) rfl
                  refine ⟨c, w', ?_, g2, g3, trivial⟩
                  have hsz : (AV.concL σ c l).toArray.size = l.length := by simp [AV.concL_map]
                  simp only [Instr.storeAt, AV.conc, Instr.sureAddr, pure_bind, storeVar, Sem.run_bind, run_sizeOf _ e4, Result.andThen_ok, h3, hsz, e3, ne_eq, not_true_eq_false, if_false, Sem.run_pure, List.toList_toArray, g1]
                  rfl
                · rw [if_neg hl]; trivial

def evFieldAddr (P : Program) (s : TypeId) (f : Nat) : AV → Option AV
  | .ptr b off => match P.underlying s with
    | some (.struct fs) => match fs[f]? with
      | some fd => match P.info? fd.type, Nat.beq (P.cellsOf fd.type) 0 with
        | some _, false => some (.ptr b (Nat.add off fd.offset))
        | _, _ => none
      | none => none
    | _ => none
  | _ => none

theorem evFieldAddr_ok (s : TypeId) (f : Nat) (a : AV) (ha : a.all c.L) : OpPure σ P gv (Instr.fieldAt s (a.conc σ c) f) c h nx w (evFieldAddr P s f a) := by
  cases a <;> try trivial
  case ptr b off =>
    unfold evFieldAddr
    simp only
    cases hu : P.underlying s with
    | none => trivial
    | some d =>
      cases d <;> try trivial
      case struct fs =>
        simp only
        cases hf : fs[f]? with
        | none => trivial
        | some fd =>
          simp only
          cases hi : P.info? fd.type with
          | none => trivial
          | some i =>
            cases hb : Nat.beq (P.cellsOf fd.type) 0 with
            | true => trivial
            | false =>
              intro R
              refine ⟨?_, ha⟩
              have hb := Nat.ne_of_beq_eq_false hb
              simp only [Instr.fieldAt, Sem.run_bind, run_underlying hu, Result.andThen_ok, hf, AV.conc, Instr.sureAddr, Sem.run_pure, fieldPlace, run_sizeOf _ hi, if_neg hb, addr_add]
              rfl

def partL (P : Program) (t : TypeId) (l : List AV) (off : Nat) : Option AV :=
  match isAggT P t with
  | some true => takeK (P.cellsOf t) (dropN off l) (fun x => some (.agg x)) none
  | some false => nthN off l
  | none => none

theorem partL_ok {t : TypeId} {l : List AV} {off : Nat} {v : AV} (h : partL P t l off = some v) (ha : AV.allL c.L l) (hs : l.all AV.scalar = true) (w : World) :
    (part t (AV.concL σ c l).toArray off).run P w = .ok (v.conc σ c) w ∧ v.all c.L := by
  unfold partL at h
  cases hg : isAggT P t with
  | none => rw [hg] at h; cases h
  | some agg =>
    rw [hg] at h
    obtain ⟨i, hi⟩ := info_of_isAgg hg
    cases agg with
    | true =>
      simp only [takeK_eq, dropN_eq] at h
      cases et : takeN (P.cellsOf t) (l.drop off) with
      | none => rw [et] at h; cases h
      | some x =>
        rw [et] at h; cases h
        obtain ⟨h1, h2⟩ := takeN_eq _ _ _ et
        have hsub : ∀ y ∈ x, y ∈ l := fun y hy => by rw [h1] at hy; exact List.mem_of_mem_drop (List.mem_of_mem_take hy)
        refine ⟨?_, (AV.allL_iff _ _).2 fun y hy => (AV.allL_iff _ _).1 ha y (hsub y hy), List.all_eq_true.2 fun y hy => List.all_eq_true.1 hs y (hsub y hy)⟩
        simp only [part, Sem.run_bind, run_isAgg hg, Result.andThen_ok, if_true, run_sizeOf _ hi, Sem.run_pure, AV.conc]
        congr 2
        apply Array.ext'
        rw [h1]
        simp [AV.concL_map]
    | false =>
      simp only [nthN_eq] at h
      refine ⟨?_, (AV.allL_iff _ _).1 ha v (List.mem_of_getElem? h)⟩
      have : (AV.concL σ c l).toArray[off]? = some (v.conc σ c) := by
        rw [AV.concL_map, List.getElem?_toArray, List.getElem?_map, h]; rfl
      simp only [part, Sem.run_bind, run_isAgg hg, Result.andThen_ok, Bool.false_eq_true, if_false, this, Sem.run_pure]

def evField (P : Program) (s : TypeId) (f : Nat) : AV → Option AV
  | .agg l => match P.underlying s with
    | some (.struct fs) => match fs[f]? with
      | some fd => partL P fd.type l fd.offset
      | none => none
    | _ => none
  | _ => none

theorem evField_ok (s : TypeId) (f : Nat) (a : AV) (ha : a.all c.L) : OpPure σ P gv (Instr.field s (a.conc σ c) f) c h nx w (evField P s f a) := by
  cases a <;> try trivial
  case agg l =>
    unfold evField
    simp only
    cases hu : P.underlying s with
    | none => trivial
    | some d =>
      cases d <;> try trivial
      case struct fs =>
        simp only
        cases hf : fs[f]? with
        | none => trivial
        | some fd =>
          simp only
          cases hp : partL P fd.type l fd.offset with
          | none => trivial
          | some v =>
            intro R
            have := partL_ok (σ := σ) (c := c) hp ha.1 ha.2 w
            simpa only [Instr.field, Sem.run_bind, run_underlying hu, Result.andThen_ok, hf, AV.conc, asAgg, Sem.run_pure] using this

/-- An index: a number that is not below 0. -/
def idxN : AV → Option Nat
  | .int k u => match natN k u with
    | true => some u
    | false => none
  | _ => none

theorem idxN_ok {a : AV} {n : Nat} (h : idxN a = some n) (σ : Nat → Value) (c : Cx) : ∃ k, a.conc σ c = .int k (n : Int) := by
  unfold idxN at h
  split at h
  · rename_i k u
    split at h
    · rename_i e; cases h; exact ⟨k, by simp only [AV.conc, natN_eq e]⟩
    · cases h
  · cases h

def evIndexAddr (P : Program) (t : TypeId) (x i : AV) : Option AV :=
  match idxN i with
  | some n => match P.underlying t, x with
    | some (.array len e), .ptr b off => match Nat.blt n len, P.info? e with
      | true, some _ => some (.ptr b (Nat.add off (Nat.mul n (P.cellsOf e))))
      | _, _ => none
    | some (.slice e), .slice b off len _ => match Nat.blt n len, P.info? e with
      | true, some _ => some (.ptr b (Nat.add off (Nat.mul n (P.cellsOf e))))
      | _, _ => none
    | some (.slice e), .sliceU b off len _ => match Nat.blt n len, P.info? e with
      | true, some _ => some (.ptr b (Nat.add off (Nat.mul n (P.cellsOf e))))
      | _, _ => none
    | _, _ => none
  | none => none

theorem evIndexAddr_ok (t : TypeId) (x i : AV) (hx : x.all c.L) : OpPure σ P gv (Instr.indexAt t (x.conc σ c) (i.conc σ c)) c h nx w (evIndexAddr P t x i) := by
  unfold evIndexAddr
  cases hi : idxN i with
  | none => trivial
  | some n =>
    obtain ⟨k, hk⟩ := idxN_ok hi σ c
    simp only
    cases hu : P.underlying t with
    | none => trivial
    | some d =>
      cases d <;> try trivial
      case array len e =>
        cases x <;> try trivial
        case ptr b off =>
          simp only
          cases hb : Nat.blt n len with
          | false => trivial
          | true =>
            cases hie : P.info? e with
            | none => trivial
            | some ie =>
              intro R
              refine ⟨?_, hx⟩
              rw [Nat.blt_eq] at hb
              have hc : (0 : Int) ≤ (n : Int) ∧ (n : Int) < (len : Int) := ⟨by omega, by omega⟩
              simp only [Instr.indexAt, hk, asIntOf, Sem.run_bind, Sem.run_pure, Result.andThen_ok, run_underlying hu, AV.conc, Instr.sureAddr, if_pos hc, run_sizeOf _ hie, Int.toNat_natCast, addr_add]
              rfl
      case slice e =>
        cases x <;> try trivial
        case slice b off len cap =>
          simp only
          cases hb : Nat.blt n len with
          | false => trivial
          | true =>
            cases hie : P.info? e with
            | none => trivial
            | some ie =>
              intro R
              refine ⟨?_, hx⟩
              rw [Nat.blt_eq] at hb
              have hc : (0 : Int) ≤ (n : Int) ∧ (n : Int) < (len : Int) := ⟨by omega, by omega⟩
              simp only [Instr.indexAt, hk, asIntOf, Sem.run_bind, Sem.run_pure, Result.andThen_ok, run_underlying hu, AV.conc, if_pos hc, run_sizeOf _ hie, Int.toNat_natCast, addr_add]
              rfl
        case sliceU b off len cut =>
          simp only
          cases hb : Nat.blt n len with
          | false => trivial
          | true =>
            cases hie : P.info? e with
            | none => trivial
            | some ie =>
              intro R
              refine ⟨?_, hx⟩
              rw [Nat.blt_eq] at hb
              have hc : (0 : Int) ≤ (n : Int) ∧ (n : Int) < (len : Int) := ⟨by omega, by omega⟩
              simp only [Instr.indexAt, hk, asIntOf, Sem.run_bind, Sem.run_pure, Result.andThen_ok, run_underlying hu, AV.conc, if_pos hc, run_sizeOf _ hie, Int.toNat_natCast, addr_add]
              rfl

def evIndex (P : Program) (t : TypeId) (x i : AV) : Option AV :=
  match idxN i with
  | some n => match P.underlying t, x with
    | some .string, .str m d => match Nat.blt n m with
      | true => some (.int .u8 (Nat.mod (Nat.shiftRight d (Nat.mul 8 n)) 256))
      | false => none
    | some (.array len e), .agg l => match Nat.blt n len, P.info? e with
      | true, some _ => partL P e l (Nat.mul n (P.cellsOf e))
      | _, _ => none
    | _, _ => none
  | none => none

theorem u8_wrap_byte (d n : Nat) : (IntKind.u8.wrap ((Nat.mod (Nat.shiftRight d (Nat.mul 8 n)) 256 : Nat) : Int)) = ((byteAt d n).toNat : Int) := by
  have h1 : Nat.mod (Nat.shiftRight d (Nat.mul 8 n)) 256 < 256 := Nat.mod_lt _ (by decide)
  rw [wrap_unsigned .u8 _ rfl h1]
  unfold byteAt
  rw [UInt8.toNat_ofNat']
  generalize Nat.mod (Nat.shiftRight d (Nat.mul 8 n)) 256 = m at *
  rw [Nat.mod_eq_of_lt (by simpa using h1)]

theorem textOf_get (m d n : Nat) (h : n < m) : (textOf m d)[n]? = some (byteAt d n) := by
  have hs : n < (textOf m d).size := by simpa using h
  rw [ByteArray.getElem?_lt' _ _ hs]
  congr 1
  show (textOf m d).data[n] = _
  simp [textOf, bytesOf]

theorem evIndex_ok (t : TypeId) (x i : AV) (hx : x.all c.L) : OpPure σ P gv (Instr.index t (x.conc σ c) (i.conc σ c)) c h nx w (evIndex P t x i) := by
  unfold evIndex
  cases hi : idxN i with
  | none => trivial
  | some n =>
    obtain ⟨k, hk⟩ := idxN_ok hi σ c
    simp only
    cases hu : P.underlying t with
    | none => trivial
    | some d =>
      cases d <;> try trivial
      case string =>
        cases x <;> try trivial
        case str m d =>
          simp only
          cases hb : Nat.blt n m with
          | false => trivial
          | true =>
            intro R
            refine ⟨?_, trivial⟩
            rw [Nat.blt_eq] at hb
            have hc : (0 : Int) ≤ (n : Int) := by omega
            simp only [Instr.index, hk, asIntOf, Sem.run_bind, Sem.run_pure, Result.andThen_ok, run_underlying hu, AV.conc, if_pos hc, Int.toNat_natCast, textOf_get m d n hb, u8_wrap_byte]
      case array len e =>
        cases x <;> try trivial
        case agg l =>
          simp only
          cases hb : Nat.blt n len with
          | false => trivial
          | true =>
            cases hie : P.info? e with
            | none => trivial
            | some ie =>
              simp only
              cases hp : partL P e l (Nat.mul n (P.cellsOf e)) with
              | none => trivial
              | some v =>
                intro R
                have := partL_ok (σ := σ) (c := c) hp hx.1 hx.2 w
                rw [Nat.blt_eq] at hb
                have hc : (0 : Int) ≤ (n : Int) ∧ (n : Int) < (len : Int) := ⟨by omega, by omega⟩
                refine ⟨?_, this.2⟩
                rw [← this.1]
                simp only [Instr.index, hk, asIntOf, Sem.run_bind, Sem.run_pure, Result.andThen_ok, run_underlying hu, AV.conc, if_pos hc, run_sizeOf _ hie, Int.toNat_natCast]
                rfl

def evExtract (i : Nat) : AV → Option AV
  | .tup l => nthN i l
  | _ => none

theorem evExtract_ok (i : Nat) (x : AV) (hx : x.all c.L) : OpPure σ P gv (Instr.extract (x.conc σ c) i) c h nx w (evExtract i x) := by
  cases x <;> try trivial
  case tup l =>
    unfold evExtract
    simp only
    cases hn : nthN i l with
    | none => trivial
    | some v =>
      intro R
      rw [nthN_eq] at hn
      refine ⟨?_, (AV.allL_iff _ _).1 hx v (List.mem_of_getElem? hn)⟩
      have : (AV.concL σ c l).toArray[i]? = some (v.conc σ c) := by
        rw [AV.concL_map, List.getElem?_toArray, List.getElem?_map, hn]; rfl
      simp only [Instr.extract, AV.conc, this, Sem.run_pure]

def evUn (op : UnOp) : AV → Option AV
  | .bool b => match op with
    | .not => some (.bool (!b))
    | _ => none
  | .int k u => match op with
    | .neg => some (.int k (subN k 0 u))
    | .xor => some (.int k (Nat.xor (Nat.mod u (md k)) (Nat.sub (md k) 1)))
    | _ => none
  | _ => none

theorem evUn_ok (op : UnOp) (x : AV) : OpPure σ P gv (Op.unary op (x.conc σ c)) c h nx w (evUn op x) := by
  cases x <;> try trivial
  case bool b =>
    cases op <;> try trivial
    intro R; exact ⟨by simp only [AV.conc, Op.unary, Sem.run_pure], trivial⟩
  case int k u =>
    cases op <;> try trivial
    case neg =>
      intro R
      refine ⟨?_, trivial⟩
      have := subN_eq k 0 u
      have h0 : k.wrap ((0 : Nat) : Int) = 0 := by cases k <;> rfl
      rw [h0] at this
      simp only [AV.conc, Op.unary, Op.intArith, Sem.run_pure]
      rw [this]
    case xor =>
      intro R
      refine ⟨?_, trivial⟩
      simp only [AV.conc, Op.unary, Op.intBits, Sem.run_pure, ofInt_wrap]
      have h1 : (BitVec.ofInt k.bits (if k.signed = true then -1 else k.max)) = BitVec.ofNat k.bits (md k - 1) := by
        cases k <;> decide
      rw [h1]
      congr 2
      have h2 : md k - 1 < md k := by have := md_pos k; omega
      simp [md] at h2 ⊢
      rw [Nat.xor_comm]
      rfl

/-- What is called, asserted not nil. -/
def evNil : AV → Option AV
  | .ptr b off => some (.ptr b off)
  | .func (.func f) first caps => some (.func (.func f) first caps)
  | .slice b off len cap => some (.slice b off len cap)
  | .sliceU b off len cap => some (.sliceU b off len cap)
  | .map b => some (.map b)
  | .iface t v => some (.iface t v)
  | _ => none

end
end
end Go.Ev
