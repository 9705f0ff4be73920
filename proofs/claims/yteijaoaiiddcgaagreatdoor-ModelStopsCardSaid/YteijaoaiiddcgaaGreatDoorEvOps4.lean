/- Conversions, parts of slices and texts, lengths. -/
import Derived.Test.YteijaoaiiddcgaaGreatDoorEvOps3
import Derived.Laws.IdiomStrings
namespace Go.Ev
open Go

noncomputable section
section
variable {σ : Nat → Value} {P : Program} {gv : Nat → Option Pos} {c : Cx} {h : Tr Obj} {nx : Pos} {w : World}

/-- The numbers of a slice: where, how many, and how many places; the greatest number of places is open for some. -/
def lenOfA : AV → Option Nat
  | .nils => some 0
  | .slice _ _ len _ => some len
  | .sliceU _ _ len _ => some len
  | .sliceZ _ _ _ _ _ => some 0
  | .str n _ => some n
  | _ => none

def evLen (P : Program) (t : TypeId) (x : AV) (h : Tr Obj) : Option AV :=
  match P.underlying t with
  | some .string => match x with
    | .str n _ => some (.int .i64 n)
    | _ => none
  | some (.array n _) => some (.int .i64 n)
  | some (.slice _) => match x with
    | .nils => some (.int .i64 0)
    | .slice _ _ len _ => some (.int .i64 len)
    | .sliceU _ _ len _ => some (.int .i64 len)
    | .sliceZ _ _ _ _ _ => some (.int .i64 0)
    | _ => none
  | some (.map _ _) => match x with
    | .nilm => some (.int .i64 0)
    | .map b => match h.get b with
      | some (.map es) => some (.int .i64 es.length)
      | _ => none
    | _ => none
  | _ => none

theorem run_getObj_map {r : Nat} {es : Array MapEntry} {k : Nat} (h : w.heap[r]? = some (.map es k)) : (getObj r).run P w = .ok (.map es k) w := by
  simp only [getObj, Sem.run, h]

/-- A length that is a number. -/
def evLenS (P : Program) (t : TypeId) (x : AV) (h : Tr Obj) : Option AV :=
  match evLen P t x h with
  | some (.int .i64 n) => match Nat.blt n 9223372036854775808 with
    | true => some (.int .i64 n)
    | false => none
  | _ => none

theorem evLenS_ok (t : TypeId) (x : AV) (hx : x.all c.L) (ty : TypeId) (types : Array TypeId) (args : Array Value) (ht : types[0]? = some t) (ha : args[0]? = some (x.conc σ c)) :
    OpPure σ P gv (Builtin.len_ types ty args) c h nx w (evLenS P t x h) := by
  unfold evLenS
  cases e : evLen P t x h with
  | none => trivial
  | some v =>
    cases v <;> try trivial
    case int k n =>
      cases k <;> try trivial
      simp only
      cases hb : Nat.blt n 9223372036854775808 with
      | false => trivial
      | true =>
        intro R
        refine ⟨?_, trivial⟩
        rw [Nat.blt_eq] at hb
        have hw : IntKind.i64.wrap (n : Int) = n := wrap_small .i64 n hb
        rw [show (AV.int .i64 n).conc σ c = .int .i64 (n : Int) by simp only [AV.conc, hw]]
        unfold evLen at e
        cases hu : P.underlying t with
        | none => rw [hu] at e; cases e
        | some d =>
          rw [hu] at e
          cases d <;> simp only [reduceCtorEq, Option.some.injEq, AV.int.injEq, true_and] at e
          case string =>
            cases x <;> simp only [reduceCtorEq, Option.some.injEq, AV.int.injEq, true_and] at e
            case str m d =>
              subst e
              simp [Builtin.len_, ht, ha, run_underlying hu, AV.conc, goInt]
          case array m el =>
            subst e
            simp [Builtin.len_, ht, ha, run_underlying hu, goInt]
          case slice el =>
            cases x <;> simp only [reduceCtorEq, Option.some.injEq, AV.int.injEq, true_and] at e
            all_goals
              subst e
              simp [Builtin.len_, ht, ha, run_underlying hu, AV.conc, goInt]
          case map k el =>
            cases x <;> simp only [reduceCtorEq, Option.some.injEq, AV.int.injEq, true_and] at e
            case nilm =>
              subst e
              simp [Builtin.len_, ht, ha, run_underlying hu, AV.conc, goInt]
            case map b =>
              split at e
              · rename_i es hes
                simp only [Option.some.injEq, AV.int.injEq, true_and] at e
                subst e
                have ho := R.obj b _ hx hes
                simp only [Obj.is] at ho
                have hl : (entriesOf σ c es).toArray.size = es.length := by simp [entriesOf]
                simp [Builtin.len_, ht, ha, run_underlying hu, AV.conc, run_getObj_map ho, hl, goInt]
              · cases e

def evMin2 (isMax : Bool) : AV → AV → Option AV
  | .int k u, .int k' v => match decide (k = k') with
    | true => match Nat.blt (ordN k v) (ordN k u), isMax with
      | true, true => some (.int k u)
      | true, false => some (.int k v)
      | false, true => match Nat.blt (ordN k u) (ordN k v) with
        | true => some (.int k v)
        | false => some (.int k u)
      | false, false => some (.int k u)
    | false => none
  | _, _ => none

def evConvInt (k j : IntKind) (u : Nat) : Option AV :=
  match Nat.ble k.bits j.bits with
  | true => some (.int k (Nat.mod u (md k)))
  | false => match natN j u with
    | true => some (.int k u)
    | false => none

theorem evConvInt_ok (k j : IntKind) (u : Nat) (v : AV) (h : evConvInt k j u = some v) : (Conv.intToInt k (j.wrap u)).run P w = .ok (v.conc σ c) w ∧ v.all c.L := by
  unfold evConvInt at h
  split at h
  · rename_i hb
    cases h
    refine ⟨?_, trivial⟩
    have hb : k.bits ≤ j.bits := Nat.le_of_ble_eq_true hb
    have hd : md k ∣ md j := Nat.pow_dvd_pow 2 hb
    simp only [Conv.intToInt, Sem.run_pure, AV.conc]
    rw [wrap_wrap k j hd]
    show _ = Result.ok (Value.int k (k.wrap ((u % md k : Nat) : Int))) w
    rw [wrap_cast_mod]
  · split at h
    · rename_i hn
      cases h
      refine ⟨?_, trivial⟩
      simp only [Conv.intToInt, Sem.run_pure, AV.conc, natN_eq hn]
    · cases h

/-- The bytes of a part of a row, as a number. -/
def rowBytes (r : Row) (off n : Nat) : Option Nat :=
  match r with
  | .bs m d => match Nat.ble (Nat.add off n) m with
    | true => some (Nat.shiftRight d (Nat.mul 8 off))
    | false => none
  | .cs l => takeK n (dropN off l) bytesCode none

theorem byteRow_eq (n d i : Nat) (hi : i < n) (σ : Nat → Value) (c : Cx) : ((Row.bs n d).toList[i]?).map (AV.conc σ c) = some (.int .u8 ((byteAt d i).toNat : Int)) := by
  simp only [Row.toList, List.getElem?_map, List.getElem?_range hi, Option.map_some, AV.conc, u8_wrap_byte]

theorem rowBytes_ok {r : Row} {off n d : Nat} (h : rowBytes r off n = some d) : ∀ i, i < n → (r.toList[off + i]?).map (AV.conc σ c) = some (.int .u8 ((byteAt d i).toNat : Int)) := by
  unfold rowBytes at h
  split at h
  · rename_i m d'
    split at h
    · rename_i hb
      have hb : off + n ≤ m := Nat.le_of_ble_eq_true hb
      cases h
      intro i hi
      rw [byteRow_eq m d' (off + i) (by omega)]
      congr 3
      unfold byteAt
      have e : d' >>> (8 * (off + i)) = (d' >>> (8 * off)) >>> (8 * i) := by rw [← Nat.shiftRight_add, Nat.mul_add]
      show (UInt8.ofNat ((d' >>> (8 * (off + i))) % 256)).toNat = (UInt8.ofNat (((d' >>> (8 * off)) >>> (8 * i)) % 256)).toNat
      rw [e]
    · cases h
  · rename_i l
    rw [takeK_eq, dropN_eq] at h
    cases et : takeN n (l.drop off) with
    | none => rw [et] at h; cases h
    | some x =>
      rw [et] at h
      simp only at h
      obtain ⟨h1, h2⟩ := takeN_eq _ _ _ et
      have hl : x.length = n := by rw [h1, List.length_take]; omega
      intro i hi
      have h3 := bytesCode_ok h
      have h4 := byteRow_eq x.length d i (by omega) σ c
      rw [h3, h1, List.getElem?_take, if_pos hi, List.getElem?_drop] at h4
      exact h4

theorem run_bytesToString' (b off len cap n d : Nat) (hl : len = n) (hc : ∀ i, i < n → w.cell? ⟨b, off + i, none⟩ = some (.int .u8 ((byteAt d i).toNat : Int))) :
    (Conv.bytesToString (.slice (some ⟨b, off, none⟩) len cap)).run P w = .ok (.string (textOf n d)) w := by
  subst hl
  have hload : (loadCells ⟨b, off, none⟩ len).run P w = .ok (((List.range len).map fun i => ((byteAt d i).toNat : Int)).map (Value.int .u8)).toArray w := by
    unfold Go.loadCells
    rw [run_loadCellsFrom w b off len 0 #[] (((List.range len).map fun i => ((byteAt d i).toNat : Int)).map (Value.int .u8)) (by simp)]
    · simp
    · intro j hj
      rw [Nat.add_zero, hc j hj]
      simp [hj]
  rw [run_bytesToString (P := P) w ⟨b, off, none⟩ len cap _ hload]
  congr 2
  have := foldl_push_byteCells (bytesOf len d) ByteArray.empty
  unfold textOf
  rw [show (List.range len).map (fun i => ((byteAt d i).toNat : Int)) = (bytesOf len d).map (fun b => (b.toNat : Int)) by simp [bytesOf]]
  rw [this]
  congr 1
  simp

def evConvert (P : Program) (src dst : TypeId) (x : AV) (h : Tr Obj) (nx : Pos) : Rs :=
  match P.underlying dst with
  | some (.int k) => match P.underlying src, x with
    | some _, .int j u => Rs.pure h nx (evConvInt k j u)
    | _, _ => .fail
  | some .string => match P.underlying src, x with
    | some .string, .str n d => .val (.str n d) h nx
    | some (.slice e), .nils => match P.underlying e with
      | some (.int .u8) => .val (.str 0 0) h nx
      | _ => .fail
    | some (.slice e), .slice b off len _ => match P.underlying e, h.get b with
      | some (.int .u8), some (.row _ r _ _ _) => match rowBytes r off len with
        | some d => .val (.str len d) h nx
        | none => .fail
      | _, _ => .fail
    | some (.slice e), .sliceU b off len _ => match P.underlying e, h.get b with
      | some (.int .u8), some (.row _ r _ _ _) => match rowBytes r off len with
        | some d => .val (.str len d) h nx
        | none => .fail
      | _, _ => .fail
    | _, _ => .fail
  | some (.slice e) => match P.underlying src, x with
    | some .string, .str n d => match P.underlying e, Nat.beq (P.cellsOf e) 1 with
      | some (.int .u8), true => newK (.row e (.bs n d) true 0 false) h nx fun h' nx' => .val (.sliceU nx 0 n 0) h' nx'
      | _, _ => .fail
    | some (.slice e'), .slice b off len cap => match P.underlying e, Nat.beq src dst, h.get b with
      | some (.int .u8), true, some (.row el r false frz true) => match P.underlying e' with
        | some _ => Tr.setK b (Obj.row el r false frz false) h fun h' => .val (.slice b off len cap) h' nx
        | none => .fail
      | _, _, _ => .fail
    | _, _ => .fail
  | some .unsafePointer => match P.underlying src, x with
    | some (.pointer t), .ptr b off => match h.get b, P.info? t, Nat.beq (P.cellsOf t) 0 with
      | some (.row _ r _ _ _), some _, false => match Nat.blt off r.toList.length with
        | true => .val (.ptr b off) h nx
        | false => .fail
      | _, _, _ => .fail
    | _, _ => .fail
  | some (.pointer u) => match P.underlying src, x with
    | some .unsafePointer, .ptr b off => match h.get b, P.info? u, Nat.beq (P.cellsOf u) 0 with
      | some (.row el r _ _ _), some _, false => match Nat.beq el u, Nat.beq off 0, Nat.ble (P.cellsOf u) r.toList.length with
        | true, true, true => .val (.ptr b off) h nx
        | _, _, _ => .fail
      | _, _, _ => .fail
    | _, _ => .fail
  | _ => .fail


theorem shape_of_row (R : Rel σ P gv c h nx w) {b : Pos} {elem : TypeId} {r : Row} {tail : Bool} {frz : Nat} {plain : Bool} (hb : c.L b)
    (ho : h.get b = some (.row elem r tail frz plain)) (off : Nat) (hoff : off < r.toList.length) :
    (Conv.seenAt ⟨c.ρ b, off, none⟩).run P w = .ok ⟨c.ρ b, off, none⟩ w ∧ ∃ n, w.shape? (c.ρ b) = some (elem, n) ∧ r.toList.length ≤ n := by
  obtain ⟨n, h1, h2⟩ := R.shape hb ho
  refine ⟨?_, n, h1, h2⟩
  simp [Conv.seenAt, viewAt, h1]

theorem OpOk.same {s : Sem Value} {v : AV} (R : Rel σ P gv c h nx w) (hr : s.run P w = .ok (v.conc σ c) w) (ha : v.all c.L) : OpOk σ P gv s c h nx w (.val v h nx) :=
  ⟨c, w, hr, R, Ext.refl .., ha⟩

theorem convert_bytes (src dst e : TypeId) (hu : P.underlying dst = some .string) (hs : P.underlying src = some (.slice e)) (he : P.underlying e = some (.int .u8)) (R : Rel σ P gv c h nx w)
    {b : Pos} {off len cap : Nat} (hb : c.L b) {el : TypeId} {r : Row} {tail : Bool} {frz : Nat} {plain : Bool} (ho : h.get b = some (.row el r tail frz plain)) {d : Nat} (hd : rowBytes r off len = some d) :
    (convert src dst (.slice (some ⟨c.ρ b, off, none⟩) len cap)).run P w = .ok (.string (textOf len d)) w := by
  rw [run_convert_bytes_string w src dst e _ _ _ hs he hu]
  refine run_bytesToString' _ _ _ _ _ _ rfl fun i hi => ?_
  have := rowBytes_ok (σ := σ) (c := c) hd i hi
  cases hv : r.toList[off + i]? with
  | none => rw [hv] at this; cases this
  | some v =>
    rw [hv, Option.map_some] at this
    rw [R.cell hb ho hv]
    exact this

theorem run_variablesAt_own (u : TypeId) (hu : P.cellsOf u ≠ 0) (b n : Nat) (hs : w.shape? b = some (u, n)) (hn : P.cellsOf u ≤ n) : (variablesAt ⟨b, 0, none⟩ u 1).run P w = .ok true w := by
  simp only [variablesAt, Sem.run_bind, run_program, Result.andThen_ok, run_shape, hs, Sem.run_pure]
  have hd : P.depth = (2 * (P.types.size + Made.depth) + 1) + 1 := rfl
  have h1 : 0 < n / P.cellsOf u := Nat.div_pos hn (by omega)
  have : liesAt P P.depth u (n / P.cellsOf u) 0 u 1 = true := by
    rw [hd, liesAt]
    have : rowAt P (sameLayout P P.depth · u) P.depth u (n / P.cellsOf u) 0 1 = true := by
      rw [hd, Go.rowAt]
      have hsl : sameLayout P (2 * (P.types.size + Made.depth) + 1 + 1) u u = true := by
        rw [sameLayout]; simp
      rw [if_neg hu]
      simp only [Nat.zero_div, Nat.zero_mod, beq_self_eq_true, Bool.true_and, Nat.zero_add, hsl, Bool.and_true, Bool.or_eq_true, decide_eq_true_eq]
      left; omega
    rw [this]; rfl
  rw [this]

theorem evConvert_ok (src dst : TypeId) (x : AV) (hx : x.all c.L) (R : Rel σ P gv c h nx w) : OpOk σ P gv (convert src dst (x.conc σ c)) c h nx w (evConvert P src dst x h nx) := by
  unfold evConvert
  cases hd : P.underlying dst with
  | none => trivial
  | some dd =>
    cases hs : P.underlying src with
    | none => cases dd <;> trivial
    | some ds =>
      cases dd <;> simp only <;> try trivial
      case int k =>
        cases x <;> try trivial
        case int j u =>
          show OpOk σ P gv _ c h nx w (Rs.pure h nx (evConvInt k j u))
          cases e : evConvInt k j u with
          | none => trivial
          | some v =>
            obtain ⟨h1, h2⟩ := evConvInt_ok (P := P) (w := w) (σ := σ) (c := c) k j u v e
            refine OpOk.same R ?_ h2
            rw [← h1]
            simp only [convert, Sem.run_bind, run_underlying hs, run_underlying hd, Result.andThen_ok, AV.conc]
      case string =>
        cases ds <;> try trivial
        case string =>
          cases x <;> try trivial
          case str n d => exact OpOk.same R (by simp [convert, run_underlying hs, run_underlying hd, AV.conc]) trivial
        case slice e =>
          cases x <;> try trivial
          case nils =>
            simp only
            split
            · rename_i he
              refine OpOk.same R ?_ trivial
              simp only [AV.conc]
              rw [run_convert_bytes_string w src dst e _ _ _ hs he hd]
              rfl
            · trivial
          case slice b off len cap =>
            simp only
            split
            · rename_i el r tail frz plain he ho
              split
              · rename_i d hrb
                exact OpOk.same R (convert_bytes src dst e hd hs he R hx ho hrb) trivial
              · trivial
            · trivial
          case sliceU b off len cut =>
            simp only
            split
            · rename_i el r tail frz plain he ho
              split
              · rename_i d hrb
                exact OpOk.same R (convert_bytes src dst e hd hs he R hx ho hrb) trivial
              · trivial
            · trivial
      case slice e =>
        cases ds <;> try trivial
        case string =>
          cases x <;> try trivial
          case str n d =>
            simp only
            split
            · rename_i he h1
              have h1 := Nat.eq_of_beq_eq_true h1
              rw [newK_eq]
              have hrun := run_bytes_of_string (P := P) w src dst e (textOf n d) hs hd he
              obtain ⟨R1, E1⟩ := R.drew
              have hcap : n ≤ grownCap w n 0 e := by unfold grownCap; simp [Question.cut]
              have hrow : ∀ c' : Cx, AV.concL σ c' (Row.bs n d).toList = (textOf n d).data.toList.map fun b => Value.int .u8 (b.toNat : Int) := by
                intro c'
                rw [AV.concL_map]
                simp only [Row.toList, List.map_map, textOf, bytesOf]
                refine List.map_congr_left fun i _ => ?_
                simp only [Function.comp_apply, AV.conc, u8_wrap_byte]
              have hsz : (bytesRow (textOf n d) (grownCap w n 0 e)).size = grownCap w n 0 e := by
                simp [bytesRow]
                have : (textOf n d).data.size = n := by simp [textOf]
                omega
              have hall : (Obj.row e (.bs n d) true 0 false).all c.L := by
                constructor
                · rw [AV.allL_iff]; intro v hv
                  simp only [Row.toList, List.mem_map] at hv
                  obtain ⟨i, _, rfl⟩ := hv; trivial
                · rw [List.all_eq_true]; intro v hv
                  simp only [Row.toList, List.mem_map] at hv
                  obtain ⟨i, _, rfl⟩ := hv; rfl
              obtain ⟨R2, E2⟩ := R1.alloc (grownCap w n 0 e) (.row e (.bs n d) true 0 false)
                (.cells (bytesRow (textOf n d) (grownCap w n 0 e)) e ((bytesRow (textOf n d) (grownCap w n 0 e)).size, (bytesRow (textOf n d) (grownCap w n 0 e)).size + 1))
                ⟨(Array.replicate (grownCap w n 0 e - n) (Value.int .u8 0)).toList, _, by
                    rw [hrow]; congr 2; apply Array.ext'; simp [bytesRow], by simp, by simp, by
                    intro off h2 h3
                    simp only [Row.toList, List.length_map, List.length_range, Array.length_toList, Array.size_replicate] at h3
                    rw [hsz]
                    simp; omega, by
                    intro _
                    simp only [Row.toList, List.length_map, List.length_range, Array.length_toList, Array.size_replicate]
                    simp [Cx.add, h1]; omega⟩ hall
              refine ⟨_, _, ?_, R2, E1.trans E2, .inl rfl⟩
              simp only [AV.conc]
              rw [hrun]
              simp [Cx.add]
            · trivial
        case slice e' =>
          cases x <;> try trivial
          case slice b off len cap =>
            simp only
            split
            · rename_i el r frz he hsd ho
              have hsd := Nat.eq_of_beq_eq_true hsd
              split
              · simp only [Tr.setK_eq]
                obtain ⟨rest, fz, g1, g2, g3, g4, g5⟩ := R.obj b _ hx ho
                obtain rfl := g3 rfl
                obtain rfl := g2 rfl
                have hcl := R.closed b _ hx ho
                have hsh : w.shape? (c.ρ b) = some (el, (AV.concL σ c r.toList ++ []).toArray.size) := by simp only [World.shape?, g1]
                obtain ⟨R2, E2⟩ := R.upd (o' := .row el r false frz false) (w' := w.freeze ⟨c.ρ b, (AV.concL σ c r.toList ++ []).toArray.size, none⟩ 1) hx ho (fun _ => rfl)
                  (by simp [World.freeze]) (fun i hi => by simp [World.freeze, Array.getElem?_modify, Ne.symm hi]) (.inl rfl)
                  ⟨[], ((AV.concL σ c r.toList ++ []).toArray.size, (AV.concL σ c r.toList ++ []).toArray.size + 1), by simp [World.freeze, Array.getElem?_modify, g1], fun _ => rfl, by simp, by
                    intro o h2 h3
                    simp [AV.concL_map] at h3 ⊢; omega, by simp⟩ hcl (by simp [World.freeze]) (by simp [World.freeze]) (by simp [World.freeze])
                refine ⟨c, _, ?_, R2, E2, hx⟩
                simp only [convert, Sem.run_bind, run_underlying hs, run_underlying hd, run_underlying he, Result.andThen_ok, AV.conc, hsd, beq_self_eq_true, markStringish, run_shape, hsh, run_freeze, Sem.run_pure]
              · trivial
            · trivial
      case unsafePointer =>
        cases ds <;> try trivial
        case pointer t =>
          cases x <;> try trivial
          case ptr b off =>
            simp only
            split
            · rename_i el r tail frz plain i ho hi hz
              have hz := Nat.ne_of_beq_eq_false hz
              split
              · rename_i hlt
                rw [Nat.blt_eq] at hlt
                obtain ⟨h1, n, h2, h3⟩ := shape_of_row R hx ho off hlt
                refine OpOk.same R ?_ hx
                have hno : (decide (off ≥ n)) = false := by simp; omega
                simp only [convert, Sem.run_bind, run_underlying hs, run_underlying hd, Result.andThen_ok, AV.conc, Conv.unsafePointer, h1, cellsIn, run_shape, h2, Sem.run_pure, run_sizeOf _ hi]
                simp [hz, hno]
              · trivial
            · trivial
      case pointer u =>
        cases ds <;> try trivial
        case unsafePointer =>
          cases x <;> try trivial
          case ptr b off =>
            simp only
            split
            · rename_i el r tail frz plain i ho hi hz
              have hz := Nat.ne_of_beq_eq_false hz
              split
              · rename_i h4 h5 h6
                have h4 := Nat.eq_of_beq_eq_true h4
                have h5 := Nat.eq_of_beq_eq_true h5
                have h6 := Nat.le_of_ble_eq_true h6
                subst h4 h5
                obtain ⟨h1, n, h2, h3⟩ := shape_of_row R hx ho 0 (by omega)
                refine OpOk.same R ?_ hx
                simp only [convert, Sem.run_bind, run_underlying hs, run_underlying hd, Result.andThen_ok, AV.conc, Conv.unsafePointer, h1, run_sizeOf _ hi, run_variablesAt_own el hz (c.ρ b) n h2 (by omega), Bool.or_true, if_true, Sem.run_pure]
              · trivial
            · trivial

end
end
end Go.Ev
