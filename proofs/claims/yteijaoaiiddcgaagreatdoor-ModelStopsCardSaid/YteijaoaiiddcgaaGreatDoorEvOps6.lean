/- append: onto a slice with room, without, and where nobody knows. -/
import Derived.Test.YteijaoaiiddcgaaGreatDoorEvOps5
namespace Go.Ev
open Go

noncomputable section
section
variable {σ : Nat → Value} {P : Program} {gv : Nat → Option Pos} {c : Cx} {h : Tr Obj} {nx : Pos} {w : World}

/-- A part of a row. -/
def rowSub (r : Row) (off k : Nat) : Option Row :=
  match r with
  | .bs m d => match Nat.ble (Nat.add off k) m with
    | true => some (.bs k (Nat.shiftRight d (Nat.mul 8 off)))
    | false => none
  | .cs l => takeK k (dropN off l) (fun x => some (.cs x)) none

theorem bs_get (n d i : Nat) (hi : i < n) : (Row.bs n d).toList[i]? = some (.int .u8 (Nat.mod (Nat.shiftRight d (Nat.mul 8 i)) 256)) := by
  simp only [Row.toList, List.getElem?_map, List.getElem?_range hi, Option.map_some]

@[simp] theorem bs_len (n d : Nat) : (Row.bs n d).toList.length = n := by simp [Row.toList]

theorem rowSub_ok {r r' : Row} {off k : Nat} (h : rowSub r off k = some r') : r'.toList = (r.toList.drop off).take k ∧ r'.toList.length = k := by
  unfold rowSub at h
  split at h
  · rename_i m d
    split at h
    · rename_i hb
      have hb : off + k ≤ m := Nat.le_of_ble_eq_true hb
      cases h
      refine ⟨?_, by simp⟩
      apply List.ext_getElem?
      intro i
      by_cases hi : i < k
      · rw [bs_get _ _ _ hi, List.getElem?_take, if_pos hi, List.getElem?_drop, bs_get _ _ _ (by omega)]
        congr 2
        have e : d >>> (8 * (off + i)) = (d >>> (8 * off)) >>> (8 * i) := by rw [← Nat.shiftRight_add, Nat.mul_add]
        show ((d >>> (8 * off)) >>> (8 * i)) % 256 = (d >>> (8 * (off + i))) % 256
        rw [e]
      · rw [List.getElem?_eq_none (by simp; omega), List.getElem?_take, if_neg hi]
    · cases h
  · rename_i l
    rw [takeK_eq, dropN_eq] at h
    cases et : takeN k (l.drop off) with
    | none => rw [et] at h; cases h
    | some x =>
      rw [et] at h; cases h
      obtain ⟨h1, h2⟩ := takeN_eq _ _ _ et
      exact ⟨h1, by show x.length = k; rw [h1, List.length_take]; omega⟩

/-- The head of a row, and another one behind it. -/
def rowAppK {R : Type} (r : Row) (keep : Nat) (new : Row) (s : Row → R) (f : R) : R :=
  match keep with
  | 0 => s new
  | k + 1 => match r, new with
    | .bs m c, .bs n d => match Nat.ble (k + 1) m with
      | true => forceN (Nat.add (Nat.mod c (Nat.pow 256 (k + 1))) (Nat.shiftLeft d (Nat.mul 8 (k + 1)))) fun x => forceN (Nat.add (k + 1) n) fun y => s (.bs y x)
      | false => f
    | r, new => takeK (k + 1) r.toList (fun x => forceL (x ++ new.toList) fun y => s (.cs y)) f

theorem bs_append (k n c d : Nat) : (Row.bs (k + n) (c % 256 ^ k + d * 256 ^ k)).toList = (Row.bs k c).toList ++ (Row.bs n d).toList := by
  have h := bytesOf_append k n c d
  have key : ∀ m x, (Row.bs m x).toList = (bytesOf m x).map fun b => AV.int .u8 b.toNat := by
    intro m x
    simp only [Row.toList, bytesOf, List.map_map]
    refine List.map_congr_left fun i _ => ?_
    simp only [Function.comp_apply, AV.int.injEq, true_and]
    unfold byteAt
    have h1 : Nat.mod (Nat.shiftRight x (Nat.mul 8 i)) 256 < 256 := Nat.mod_lt _ (by decide)
    rw [UInt8.toNat_ofNat']
    exact (Nat.mod_eq_of_lt (by simpa using h1)).symm
  rw [key, key, key, h, List.map_append]

theorem rowAppK_ok {R : Type} (r : Row) (keep : Nat) (new : Row) (s : Row → R) (f : R) :
    (keep ≤ r.toList.length ∧ ∃ r', r'.toList = r.toList.take keep ++ new.toList ∧ rowAppK r keep new s f = s r') ∨ rowAppK r keep new s f = f := by
  unfold rowAppK
  cases keep with
  | zero => left; exact ⟨Nat.zero_le _, new, by simp, rfl⟩
  | succ k =>
    simp only
    split
    · rename_i m c n d
      cases hb : Nat.ble (k + 1) m with
      | false => right; rfl
      | true =>
        have hb := Nat.le_of_ble_eq_true hb
        left
        refine ⟨by simpa using hb, .bs (k + 1 + n) (c % 256 ^ (k + 1) + d * 256 ^ (k + 1)), ?_, ?_⟩
        · rw [bs_append]
          congr 1
          have := (rowSub_ok (r := .bs m c) (off := 0) (k := k + 1) (r' := .bs (k + 1) (Nat.shiftRight c (Nat.mul 8 0))) (by
            simp only [rowSub]
            have : Nat.ble (Nat.add 0 (k + 1)) m = true := by rw [show Nat.add 0 (k + 1) = k + 1 by simp]; exact Nat.ble_eq_true_of_le hb
            rw [this])).1
          have e0 : Nat.shiftRight c (Nat.mul 8 0) = c := rfl
          rw [e0] at this
          rw [this, List.drop_zero]
        · simp only [forceN_eq]
          congr 2
          show c % 256 ^ (k + 1) + d <<< (8 * (k + 1)) = _
          rw [Nat.shiftLeft_eq, pow256]
    · rw [takeK_eq]
      cases et : takeN (k + 1) r.toList with
      | none => right; rfl
      | some x =>
        obtain ⟨h1, h2⟩ := takeN_eq _ _ _ et
        left
        refine ⟨h2, .cs (x ++ new.toList), ?_, ?_⟩
        · show x ++ new.toList = _; rw [h1]
        · simp only [forceL_eq]

/-- What is appended: how many elements, and their cells. -/
def srcRow (size : Nat) (x : AV) (h : Tr Obj) : Option (Nat × Row) :=
  match x with
  | .nils => some (0, .cs [])
  | .sliceZ _ _ _ _ _ => some (0, .cs [])
  | .str n d => match Nat.beq size 1 with
    | true => some (n, .bs n d)
    | false => none
  | .slice b off len _ => match len with
    | 0 => some (0, .cs [])
    | len + 1 => match h.get b with
      | some (.row _ r _ _ _) => match rowSub r off (Nat.mul (len + 1) size) with
        | some r' => some (len + 1, r')
        | none => none
      | _ => none
  | .sliceU b off len _ => match len with
    | 0 => some (0, .cs [])
    | len + 1 => match h.get b with
      | some (.row _ r _ _ _) => match rowSub r off (Nat.mul (len + 1) size) with
        | some r' => some (len + 1, r')
        | none => none
      | _ => none
  | _ => none

theorem byteCells_eq (n d : Nat) (c : Cx) : AV.concL σ c (Row.bs n d).toList = (textOf n d).data.toList.map fun b => Value.int .u8 (b.toNat : Int) := by
  rw [AV.concL_map]
  simp only [Row.toList, List.map_map, textOf, bytesOf]
  refine List.map_congr_left fun i _ => ?_
  simp only [Function.comp_apply, AV.conc, u8_wrap_byte]

theorem bs_all (n d : Nat) (p : Pos → Prop) : AV.allL p (Row.bs n d).toList ∧ (Row.bs n d).toList.all AV.scalar = true := by
  constructor
  · rw [AV.allL_iff]; intro v hv
    simp only [Row.toList, List.mem_map] at hv
    obtain ⟨i, _, rfl⟩ := hv; trivial
  · rw [List.all_eq_true]; intro v hv
    simp only [Row.toList, List.mem_map] at hv
    obtain ⟨i, _, rfl⟩ := hv; rfl

theorem srcPart (R : Rel σ P gv c h nx w) {b : Pos} (hb : c.L b) {el : TypeId} {r r' : Row} {tail : Bool} {frz : Nat} {plain : Bool} (ho : h.get b = some (.row el r tail frz plain)) {off k : Nat}
    (hr : rowSub r off k = some r') : (Go.loadCells ⟨c.ρ b, off, none⟩ k).run P w = .ok (AV.concL σ c r'.toList).toArray w ∧ AV.allL c.L r'.toList ∧ r'.toList.all AV.scalar = true := by
  obtain ⟨h1, h2⟩ := rowSub_ok hr
  have hcl := R.closed b _ hb ho
  have hsub : ∀ x ∈ r'.toList, x ∈ r.toList := fun x hx => by rw [h1] at hx; exact List.mem_of_mem_drop (List.mem_of_mem_take hx)
  refine ⟨?_, (AV.allL_iff _ _).2 fun x hx => (AV.allL_iff _ _).1 hcl.1 x (hsub x hx), List.all_eq_true.2 fun x hx => List.all_eq_true.1 hcl.2 x (hsub x hx)⟩
  have := R.loadCells hb ho (off := off) (vs := r'.toList) (fun j hj => by
    rw [h1, List.getElem?_take, if_pos (by omega), List.getElem?_drop])
  rw [h2] at this
  exact this

theorem srcRow_ok {size n : Nat} {x : AV} {r : Row} (hx : x.all c.L) (hs : srcRow size x h = some (n, r)) (R : Rel σ P gv c h nx w) :
    (Builtin.lenOf (x.conc σ c)).run P w = .ok n w ∧ (Builtin.firstCells size n (x.conc σ c)).run P w = .ok (AV.concL σ c r.toList).toArray w ∧
    AV.allL c.L r.toList ∧ r.toList.all AV.scalar = true ∧ r.toList.length = n * size := by
  unfold srcRow at hs
  split at hs
  · cases hs
    exact ⟨rfl, by simp only [AV.conc, Builtin.firstCells, Sem.run_pure]; rfl, trivial, rfl, by simp [Row.toList]⟩
  · cases hs
    refine ⟨rfl, ?_, trivial, rfl, by simp [Row.toList]⟩
    simp only [AV.conc, Builtin.firstCells, Nat.zero_mul]
    rfl
  · rename_i m d
    split at hs
    · rename_i h1
      have h1 := Nat.eq_of_beq_eq_true h1
      cases hs
      refine ⟨by simp [AV.conc, Builtin.lenOf], ?_, (bs_all _ d c.L).1, (bs_all _ d c.L).2, by simp [h1]⟩
      simp only [AV.conc, Builtin.firstCells, Sem.run_pure]
      congr 1
      apply Array.ext'
      rw [byteCells_eq]
      have : (textOf n d).extract 0 n = textOf n d := by
        unfold textOf
        rw [ByteArray.extract_mk]
        simp [List.take_of_length_le]
      rw [this]
      simp
    · cases hs
  · rename_i b off len cap
    split at hs
    · cases hs
      refine ⟨rfl, ?_, trivial, rfl, by simp [Row.toList]⟩
      simp only [AV.conc, Builtin.firstCells, Nat.zero_mul]
      rfl
    · rename_i len
      split at hs
      · rename_i el r0 tail frz plain ho
        split at hs
        · rename_i r' hr
          cases hs
          obtain ⟨g1, g2, g3⟩ := srcPart R hx ho hr
          refine ⟨rfl, ?_, g2, g3, (rowSub_ok hr).2⟩
          simp only [AV.conc, Builtin.firstCells]
          exact g1
        · cases hs
      · cases hs
  · rename_i b off len cut
    split at hs
    · cases hs
      refine ⟨rfl, ?_, trivial, rfl, by simp [Row.toList]⟩
      simp only [AV.conc, Builtin.firstCells, Nat.zero_mul]
      rfl
    · rename_i len
      split at hs
      · rename_i el r0 tail frz plain ho
        split at hs
        · rename_i r' hr
          cases hs
          obtain ⟨g1, g2, g3⟩ := srcPart R hx ho hr
          refine ⟨rfl, ?_, g2, g3, (rowSub_ok hr).2⟩
          simp only [AV.conc, Builtin.firstCells]
          exact g1
        · cases hs
      · cases hs
  · cases hs

section runs
variable {types : Array TypeId} {args : Array Value} {ty sT xT e : TypeId} {base : Option Addr} {sLen sCap n : Nat} {xv : Value} {dx : TypeDesc} {i : TypeInfo} {z : Value}

theorem run_append_grow (ht : types[0]? = some sT) (hxT : types[1]? = some xT) (hs : args[0]? = some (.slice base sLen sCap)) (hx : args[1]? = some xv)
    (hu : P.underlying sT = some (.slice e)) (hi : P.info? e = some i) (hz : i.zero = some z) (hxu : P.underlying xT = some dx) (hdx : ∀ k, dx ≠ .int k)
    (hn : ∀ w, (Builtin.lenOf xv).run P w = .ok n w) (hneed : sCap < sLen + n) (hsmall : Builtin.nextslicecap (sLen + n) sCap * i.bytes ≤ 2 ^ 48) (hs2 : sLen + n ≤ 4611686018427387904)
    {old new : Array Value} (hold : (Builtin.firstCells i.size sLen (.slice base sLen sCap)).run P w.drew = .ok old w.drew) (hnew : (Builtin.firstCells i.size n xv).run P w.drew = .ok new w.drew) :
    ∃ k, sLen + n ≤ k ∧ (Builtin.append_ types ty args).run P w = .ok (.slice (some ⟨w.heap.size, 0, none⟩) (sLen + n) k) (w.drew.alloc (.cells (old ++ new ++ Builtin.zeroCells z.cells (k - (sLen + n))) e)) := by
  have hm : (dx matches .int _) = false := by cases dx <;> first | rfl | exact absurd rfl (hdx _)
  have hzero : (zeroValue e).run P w.drew = .ok z w.drew := run_zeroValue hi hz _
  have hsz : (sizeOf e).run P w = .ok i.size w := by simp [sizeOf, run_typeInfo w hi]
  have h48 : ¬ (Builtin.nextslicecap (sLen + n) sCap * i.bytes > 2 ^ 48) := by omega
  have hbig : ¬ (((sLen + n : Nat) : Int) > IntKind.i64.max) := by
    have : IntKind.i64.max = 9223372036854775807 := rfl
    omega
  refine ⟨(Question.appendCap (sLen + n) sCap e).cut (w.tape w.drawn (Question.appendCap (sLen + n) sCap e)), by simp [Question.cut], ?_⟩
  have hch : (choose (.appendCap (sLen + n) sCap e)).run P w = .ok ((Question.appendCap (sLen + n) sCap e).cut (w.tape w.drawn (Question.appendCap (sLen + n) sCap e))) w.drew := by
    rw [run_choose]; rfl
  unfold Builtin.append_
  simp only [ht, hxT, hs, hx, Sem.run_bind, run_underlying hu, Result.andThen_ok, hsz, run_underlying hxu, Sem.run_pure, hm, Bool.false_eq_true, if_false, hn, Bool.not_false, if_true]
  rw [Sem.run_ite, if_neg (by omega)]
  simp only [hbig, false_and, if_false, Sem.run_bind, run_typeInfo w hi, Result.andThen_ok, Sem.run_ite, if_neg h48, hch, run_typeInfo w.drew hi, run_askRoom, hold, hnew, hzero, Sem.run_pure, Go.newRow, run_newObj]
  rfl

theorem run_append_room (ht : types[0]? = some sT) (hxT : types[1]? = some xT) (hs : args[0]? = some (.slice base sLen sCap)) (hx : args[1]? = some xv)
    (hu : P.underlying sT = some (.slice e)) (hi : P.info? e = some i) (hxu : P.underlying xT = some dx) (hdx : ∀ k, dx ≠ .int k)
    (hn : ∀ w, (Builtin.lenOf xv).run P w = .ok n w) (hneed : sLen + n ≤ sCap) {new : Array Value} (hnew : (Builtin.firstCells i.size n xv).run P w = .ok new w) :
    (Builtin.append_ types ty args).run P w = (match base with
      | some a => (storeCells (a.add (sLen * i.size)) new.toList).run P w
      | none => .ok () w).andThen fun _ w' => .ok (.slice base (sLen + n) sCap) w' := by
  have hm : (dx matches .int _) = false := by cases dx <;> first | rfl | exact absurd rfl (hdx _)
  have hsz : (sizeOf e).run P w = .ok i.size w := by simp [sizeOf, run_typeInfo w hi]
  unfold Builtin.append_
  simp only [ht, hxT, hs, hx, Sem.run_bind, run_underlying hu, Result.andThen_ok, hsz, run_underlying hxu, Sem.run_pure, hm, Bool.false_eq_true, if_false, hn, Bool.not_false, if_true]
  rw [Sem.run_ite, if_pos hneed]
  cases base with
  | none => simp [hnew]
  | some a => simp [hnew]

end runs

/-- A new row behind an append that found no room. -/
def growTo (e : TypeId) (r : Row) (need : Nat) (h : Tr Obj) (nx : Pos) : Rs := newK (.row e r true 0 true) h nx fun h' nx' => .val (.sliceU nx 0 need 0) h' nx'

/-- Is it small enough for a new array, whatever the elder one's capacity? -/
def fitsNew (need bytes : Nat) : Bool := Nat.ble need 4611686018427387904 && Nat.ble (Nat.mul (Nat.add (Nat.mul 2 need) 1024) bytes) 281474976710656

theorem nextslicecap_le (need cap : Nat) (h : cap < need) : Builtin.nextslicecap need cap ≤ 2 * need + 1024 := by
  unfold Builtin.nextslicecap
  split
  · omega
  · split
    · omega
    · simp only [Builtin.growBy]
      repeat' split
      all_goals omega

theorem fitsNew_ok {need bytes : Nat} (h : fitsNew need bytes = true) : need ≤ 4611686018427387904 ∧ ∀ cap, cap < need → Builtin.nextslicecap need cap * bytes ≤ 2 ^ 48 := by
  unfold fitsNew at h
  simp only [Bool.and_eq_true] at h
  have h1 : need ≤ 4611686018427387904 := Nat.le_of_ble_eq_true h.1
  have h2 : (2 * need + 1024) * bytes ≤ 281474976710656 := Nat.le_of_ble_eq_true h.2
  refine ⟨h1, fun cap hc => ?_⟩
  have := Nat.mul_le_mul_right bytes (nextslicecap_le need cap hc)
  omega

theorem zeroCells_len (z : Array Value) (n : Nat) : (Builtin.zeroCells z n).size = n * z.size := by simp [Builtin.zeroCells]

/-- The row that a growing append makes is there. -/
theorem growTo_ok {s : Sem Value} {w : World} (R : Rel σ P gv c h nx w) (e : TypeId) (i : TypeInfo) (hi : P.info? e = some i) (zc : Array Value) (hz : zc.size = i.size) (l : List AV) (r : Row) (hr : r.toList = l) (ha : AV.allL c.L l) (hsc : l.all AV.scalar = true)
    (need k : Nat) (hl : l.length = need * i.size) (hk : need ≤ k)
    (hrun : s.run P w = .ok (.slice (some ⟨w.heap.size, 0, none⟩) need k) (w.drew.alloc (.cells ((AV.concL σ c l).toArray ++ Builtin.zeroCells zc (k - need)) e))) :
    OpOk σ P gv s c h nx w (growTo e r need h nx) := by
  unfold growTo
  rw [newK_eq]
  obtain ⟨R1, E1⟩ := R.drew
  have hcs : P.cellsOf e = i.size := by simp [Program.cellsOf, hi]
  obtain ⟨R2, E2⟩ := R1.alloc k (.row e r true 0 true) (.cells ((AV.concL σ c l).toArray ++ Builtin.zeroCells zc (k - need)) e)
    ⟨(Builtin.zeroCells zc (k - need)).toList, (0, 0), by
      rw [hr, AV.concL_agree (R1.agree_add _ _) l ha]
      congr 2
      apply Array.ext'; simp, by simp, fun _ => rfl, by simp, by
      intro _
      rw [hr, hl, hcs]
      simp only [Array.length_toList, zeroCells_len, hz]
      simp only [Cx.add, if_true]
      rw [← Nat.add_mul]; congr 1; omega⟩ ⟨by rw [hr]; exact ha, by rw [hr]; exact hsc⟩
  refine ⟨_, _, ?_, R2, E1.trans E2, .inl rfl⟩
  rw [hrun]
  simp [AV.conc, Cx.add]

def storeRow (b : Pos) (el : TypeId) (r : Row) (tail : Bool) (frz : Nat) (plain : Bool) (off : Nat) (new : Row) (res : AV) (h : Tr Obj) (nx : Pos) : Rs :=
  match Nat.ble frz off with
  | true => match Nat.beq (Nat.add off new.toList.length) r.toList.length with
    | true => rowAppK r off new (fun r' => Tr.setK b (.row el r' tail frz plain) h fun h' => .val res h' nx) .fail
    | false => spliceK off new.toList r.toList (fun x => Tr.setK b (.row el (.cs x) tail frz plain) h fun h' => .val res h' nx) .fail
  | false => .fail

theorem storeRow_ok {w : World} (R : Rel σ P gv c h nx w) {b : Pos} (hb : c.L b) {el : TypeId} {r : Row} {tail : Bool} {frz : Nat} {plain : Bool} (ho : h.get b = some (.row el r tail frz plain))
    (off : Nat) (new : Row) (ha : AV.allL c.L new.toList) (hs : new.toList.all AV.scalar = true) (res : AV) (hres : res.all c.L) {s : Sem Value}
    (hrun : s.run P w = ((storeCells ⟨c.ρ b, off, none⟩ (AV.concL σ c new.toList)).run P w).andThen fun _ w' => .ok (res.conc σ c) w') :
    OpOk σ P gv s c h nx w (storeRow b el r tail frz plain off new res h nx) := by
  unfold storeRow
  cases hf : Nat.ble frz off with
  | false => trivial
  | true =>
    have hf := Nat.le_of_ble_eq_true hf
    simp only
    have main : ∀ r' : Row, off + new.toList.length ≤ r.toList.length → r'.toList = splice r.toList off new.toList → OpOk σ P gv s c h nx w (.val res (h.set b (.row el r' tail frz plain)) nx) := by
      intro r' hl hr'
      obtain ⟨w', g1, g2, g3⟩ := R.store hb ho hf hl ha hs hr'
      exact ⟨c, w', by rw [hrun, g1]; rfl, g2, g3, hres⟩
    cases hq : Nat.beq (Nat.add off new.toList.length) r.toList.length with
    | true =>
      have hq : off + new.toList.length = r.toList.length := Nat.eq_of_beq_eq_true hq
      simp only [Tr.setK_eq]
      rcases rowAppK_ok r off new (fun r' => Rs.val res (Tr.set b (.row el r' tail frz plain) h) nx) Rs.fail with ⟨h1, r', h2, h3⟩ | h3
      · rw [h3]
        refine main r' (by omega) ?_
        rw [h2]
        simp [splice, hq]
      · rw [h3]; trivial
    | false =>
      simp only [Tr.setK_eq, spliceK_eq]
      by_cases hl : off + new.toList.length ≤ r.toList.length
      · rw [if_pos hl]; exact main _ hl rfl
      · rw [if_neg hl]; trivial

/-- An open slice that grows: where it stands, or elsewhere. -/
def forkRow (b : Pos) (el : TypeId) (r : Row) (frz : Nat) (plain : Bool) (keep : Nat) (new : Row) (need : Nat) (h : Tr Obj) (nx : Pos) : Rs :=
  match Nat.ble frz keep, Nat.beq frz 0, plain with
  | true, true, true => rowAppK r keep new (fun r' => Tr.setK b .dead h fun h1 => newK (.row el r' true 0 true) h1 nx fun h' nx' => .val (.sliceU nx 0 need 0) h' nx') .fail
  | _, _, _ => .fail

def evAppend (P : Program) (sT xT : TypeId) (s x : AV) (h : Tr Obj) (nx : Pos) : Rs :=
  match P.underlying sT with
  | some (.slice e) => match P.info? e, (match P.underlying xT with | none => true | some (.int _) => true | some _ => false), zeroCells P e with
    | some i, false, some zc => match Nat.beq zc.length i.size, Nat.beq i.size 0, srcRow i.size x h with
      | true, false, some (n, new) => match s with
        | .nils => match n with
          | 0 => .val .nils h nx
          | n + 1 => match fitsNew (n + 1) i.bytes with
            | true => growTo e new (n + 1) h nx
            | false => .fail
        | .slice b off len cap => match n with
          | 0 => match Nat.ble len cap with
            | true => .val (.slice b off len cap) h nx
            | false => .fail
          | n + 1 => match Nat.ble (Nat.add len (n + 1)) cap with
            | true => match h.get b with
              | some (.row el r tail frz plain) => storeRow b el r tail frz plain (Nat.add off (Nat.mul len i.size)) new (.slice b off (Nat.add len (n + 1)) cap) h nx
              | _ => .fail
            | false => match fitsNew (Nat.add len (n + 1)) i.bytes, srcRow i.size (.slice b off len cap) h with
              | true, some (_, old) => rowAppK old (Nat.mul len i.size) new (fun r => growTo e r (Nat.add len (n + 1)) h nx) .fail
              | _, _ => .fail
        | .sliceU b off len cut => match openOk P h e b off len cut with
          | true => match n with
            | 0 => .val (.sliceU b off len cut) h nx
            | n + 1 => match h.get b with
              | some (.row el r tail frz plain) => match Nat.ble (Nat.mul (Nat.add cut (Nat.add len (n + 1))) i.size) r.toList.length with
                | true => storeRow b el r tail frz plain (Nat.add off (Nat.mul len i.size)) new (.sliceU b off (Nat.add len (n + 1)) cut) h nx
                | false => match Nat.beq cut 0, fitsNew (Nat.add len (n + 1)) i.bytes with
                  | true, true => forkRow b el r frz plain (Nat.mul len i.size) new (Nat.add len (n + 1)) h nx
                  | _, _ => .fail
              | _ => .fail
          | false => .fail
        | .sliceZ b off step cut op => match n with
          | 0 => .val (.sliceZ b off step cut op) h nx
          | n + 1 => match op, fitsNew (n + 1) i.bytes with
            | false, true => growTo e new (n + 1) h nx
            | _, _ => .fail
        | _ => .fail
      | _, _, _ => .fail
    | _, _, _ => .fail
  | _ => .fail


theorem forkRow_ok {w : World} (R : Rel σ P gv c h nx w) {b : Pos} (hb : c.L b) {e : TypeId} {r : Row} {frz : Nat} {plain : Bool} (ho : h.get b = some (.row e r true frz plain))
    (i : TypeInfo) (hi : P.info? e = some i) (zc : Array Value) (hz : zc.size = i.size) (hpos : i.size ≠ 0) (len n : Nat) (new : Row) (hnl : new.toList.length = n * i.size) (ha : AV.allL c.L new.toList) (hs : new.toList.all AV.scalar = true)
    (hlen : len * i.size ≤ r.toList.length) (hover : r.toList.length ≤ (len + n) * i.size) {s : Sem Value}
    (hroom : len + n ≤ c.κ b → s.run P w = ((storeCells ⟨c.ρ b, len * i.size, none⟩ (AV.concL σ c new.toList)).run P w).andThen fun _ w' => .ok (.slice (some ⟨c.ρ b, 0, none⟩) (len + n) (c.κ b)) w')
    (hgrow : c.κ b < len + n → ∃ k, len + n ≤ k ∧ s.run P w = .ok (.slice (some ⟨w.heap.size, 0, none⟩) (len + n) k) (w.drew.alloc (.cells ((AV.concL σ c (r.toList.take (len * i.size) ++ new.toList)).toArray ++ Builtin.zeroCells zc (k - (len + n))) e))) :
    OpOk σ P gv s c h nx w (forkRow b e r frz plain (len * i.size) new (len + n) h nx) := by
  unfold forkRow
  split
  · rename_i hf hf0
    have hf := Nat.le_of_ble_eq_true hf
    simp only [Tr.setK_eq, newK_eq]
    rcases rowAppK_ok r (len * i.size) new (fun r' => Rs.val (.sliceU nx 0 (len + n) 0) (Tr.set nx (.row e r' true 0 true) (Tr.set b .dead h)) nx.succ) Rs.fail with ⟨h1, r', h2, h3⟩ | h3
    · rw [h3]
      have hcl := R.closed b _ hb ho
      have hcs : P.cellsOf e = i.size := by simp [Program.cellsOf, hi]
      have hr'a : AV.allL c.L r'.toList := by
        rw [h2, AV.allL_iff]; intro v hv
        rcases List.mem_append.1 hv with hv | hv
        · exact (AV.allL_iff _ _).1 hcl.1 v (List.mem_of_mem_take hv)
        · exact (AV.allL_iff _ _).1 ha v hv
      have hr's : r'.toList.all AV.scalar = true := by
        rw [h2, List.all_eq_true]; intro v hv
        rcases List.mem_append.1 hv with hv | hv
        · exact List.all_eq_true.1 hcl.2 v (List.mem_of_mem_take hv)
        · exact List.all_eq_true.1 hs v hv
      have hr'l : r'.toList.length = (len + n) * i.size := by rw [h2, List.length_append, List.length_take, Nat.min_eq_left hlen, hnl, Nat.add_mul]
      obtain ⟨R1, E1⟩ := R.kill hb ho
      obtain ⟨rest, fz, g1, g2, g3, g4, g5⟩ := R.obj b _ hb ho
      obtain rfl := g3 rfl
      have g5 := g5 rfl
      rw [hcs] at g5
      have hnb : b ≠ nx := R.ne_nx hb
      by_cases hk : len + n ≤ c.κ b
      · have hrun := hroom hk
        have htot : (len + n) * i.size ≤ r.toList.length + rest.length := by rw [← g5]; exact Nat.mul_le_mul_right _ hk
        have hst := run_storeCells_in P (c.ρ b) (len * i.size) e (0, 0) (AV.concL σ c new.toList) 0 _ w g1
          (by simp) (by
            simp only [AV.concL_map, List.length_map, Nat.add_zero, List.size_toArray, List.length_append, hnl]
            rw [← Nat.add_mul]; exact htot)
          (by
            intro v hv
            rw [AV.concL_map, List.mem_map] at hv
            obtain ⟨a, h6, rfl⟩ := hv
            exact AV.oneCell R.sc c a (List.all_eq_true.1 hs a h6))
        generalize hw' : w.setRow (c.ρ b) _ = w' at hst
        have hrow : w'.heap[c.ρ b]? = some (.cells ((AV.concL σ c r'.toList) ++ (rest.drop ((len + n) * i.size - r.toList.length))).toArray e (0, 0)) := by
          rw [← hw', setRow_heap w _ _ _ e (0, 0) g1]
          congr 2
          rw [h2]
          simp only [Nat.add_zero, AV.concL_map, List.map_append, List.map_take, List.length_map, hnl]
          rw [List.take_append_of_le_length (by simpa using hlen)]
          rw [List.drop_append, List.drop_eq_nil_of_le (by rw [List.length_map, ← Nat.add_mul]; exact hover), List.nil_append]
          rw [List.length_map, ← Nat.add_mul]
        obtain ⟨R2, E2⟩ := R1.add (c.ρ b) (c.κ b) (.row e r' true 0 true) w' (.inr ⟨b, hb, rfl⟩)
          (by
            intro x ox hx hg hl he
            rw [Tr.get_set] at hg
            split at hg
            · cases hg; cases hl
            · rename_i hne
              exact hne (R.inj x b ox _ hx hb hg ho hl rfl he))
          (by rw [← hw']; simp) (by rw [← hw']; simpa using R.le b hb)
          (fun j hj hne => by rw [← hw']; exact setRow_other w _ _ _ hne)
          ⟨_, (0, 0), by rw [AV.concL_agree (R1.agree_add _ _) _ hr'a]; exact hrow, by simp, fun _ => rfl, by simp, by
            intro _
            simp only [Cx.add, if_true, hr'l, hcs, List.length_drop]
            omega⟩ ⟨hr'a, hr's⟩
          (by rw [← hw']; rfl) (by rw [← hw']; rfl) (by rw [← hw']; rfl)
        refine ⟨_, w', ?_, R2, E1.trans E2, .inl rfl⟩
        rw [hrun, hst]
        simp [AV.conc, Cx.add]
      · obtain ⟨k, hk1, hrun⟩ := hgrow (by omega)
        have := growTo_ok (s := s) R1 e i hi zc hz _ r' h2 (by rw [← h2]; exact hr'a) (by rw [← h2]; exact hr's) (len + n) k (by rw [← h2]; exact hr'l) hk1 hrun
        unfold growTo at this
        rw [newK_eq] at this
        obtain ⟨c', w', k1, k2, k3, k4⟩ := this
        exact ⟨c', w', k1, k2, E1.trans k3, k4⟩
    · rw [h3]; trivial
  · trivial

theorem evAppend_ok {types : Array TypeId} {args : Array Value} {ty sT xT : TypeId} {s x : AV} (ht : types[0]? = some sT) (hxT : types[1]? = some xT)
    (hs : args[0]? = some (s.conc σ c)) (hx : args[1]? = some (x.conc σ c)) (hsL : s.all c.L) (hxL : x.all c.L) (R : Rel σ P gv c h nx w) :
    OpOk σ P gv (Builtin.append_ types ty args) c h nx w (evAppend P sT xT s x h nx) := by
  unfold evAppend
  cases hu : P.underlying sT with
  | none => trivial
  | some d =>
    cases d <;> simp only <;> try trivial
    case slice e =>
      split
      · rename_i i zc hi hxt hzc
        have hdx : ∃ dx, P.underlying xT = some dx ∧ ∀ k, dx ≠ .int k := by
          cases hq : P.underlying xT with
          | none => rw [hq] at hxt; cases hxt
          | some dx =>
            refine ⟨dx, rfl, fun k hk => ?_⟩
            subst hk; rw [hq] at hxt; cases hxt
        obtain ⟨dx, hxu, hdx⟩ := hdx
        obtain ⟨⟨i', zv, z1, z2, z3⟩, z4, z5⟩ := zeroCells_ok R.sc hzc
        rw [hi] at z1; cases z1
        split
        · rename_i n new hzl hpos hsrc
          have hzl := Nat.eq_of_beq_eq_true hzl
          have hpos := Nat.ne_of_beq_eq_false hpos
          obtain ⟨s1, s2, s3, s4, s5⟩ := srcRow_ok hxL hsrc R
          have hn : ∀ w, (Builtin.lenOf (x.conc σ c)).run P w = .ok n w := by
            intro w2
            cases x <;> simp [srcRow] at hsrc <;> simp [AV.conc, Builtin.lenOf] at s1 ⊢ <;> exact s1
          have hnew : ∀ w2, Rel σ P gv c h nx w2 → (Builtin.firstCells i.size n (x.conc σ c)).run P w2 = .ok (AV.concL σ c new.toList).toArray w2 :=
            fun w2 R2 => (srcRow_ok hxL hsrc R2).2.1
          have hzsz : zv.cells.size = i.size := by rw [z3 c]; simp [AV.concL_map, hzl]
          have R' := (R.drew).1
          cases s <;> simp only <;> try trivial
          case nils =>
            cases n with
            | zero =>
              refine OpOk.same R ?_ trivial
              rw [run_append_room ht hxT hs hx hu hi hxu hdx hn (Nat.le_refl _) (hnew w R)]
              rfl
            | succ n =>
              simp only
              cases hfit : fitsNew (n + 1) i.bytes with
              | false => trivial
              | true =>
                obtain ⟨f1, f2⟩ := fitsNew_ok hfit
                obtain ⟨k, k1, k2⟩ := run_append_grow (ty := ty) ht hxT hs hx hu hi z2 hxu hdx hn (by omega) (by rw [Nat.zero_add]; exact f2 0 (by omega)) (by omega) (old := #[]) (by simp [Builtin.firstCells]) (hnew _ R')
                rw [Nat.zero_add] at k1 k2
                exact growTo_ok R e i hi zv.cells hzsz new.toList new rfl s3 s4 (n + 1) k s5 k1 (by rw [k2]; simp)
          case slice b off len cap =>
            cases n with
            | zero =>
              simp only
              cases hle : Nat.ble len cap with
              | false => trivial
              | true =>
                have hle := Nat.le_of_ble_eq_true hle
                refine OpOk.same R ?_ hsL
                rw [run_append_room ht hxT hs hx hu hi hxu hdx hn (by omega) (hnew w R)]
                have : new.toList = [] := List.eq_nil_of_length_eq_zero (by simpa using s5)
                simp [this, AV.concL, storeCells, AV.conc]
            | succ n =>
              simp only
              cases hle : Nat.ble (Nat.add len (n + 1)) cap with
              | true =>
                have hle : len + (n + 1) ≤ cap := Nat.le_of_ble_eq_true hle
                simp only
                split
                · rename_i el r tail frz plain ho
                  refine storeRow_ok R hsL ho _ new s3 s4 (.slice b off (Nat.add len (n + 1)) cap) hsL ?_
                  rw [run_append_room ht hxT hs hx hu hi hxu hdx hn hle (hnew w R)]
                  simp only [addr_add, List.toList_toArray]
                  rfl
                · trivial
              | false =>
                have hgt : cap < len + (n + 1) := by
                  rcases Nat.lt_or_ge cap (len + (n + 1)) with hh | hh
                  · exact hh
                  · have hh' : Nat.ble (Nat.add len (n + 1)) cap = true := Nat.ble_eq_true_of_le hh
                    rw [hh'] at hle; cases hle
                simp only
                split
                · rename_i n2 old hfit hold
                  obtain ⟨f1, f2⟩ := fitsNew_ok hfit
                  obtain ⟨o1, o2, o3, o4, o5⟩ := srcRow_ok hsL hold R
                  have hn2 : n2 = len := by
                    cases len <;> simp only [srcRow] at hold
                    · cases hold; rfl
                    · split at hold
                      · split at hold
                        · cases hold; rfl
                        · cases hold
                      · cases hold
                  subst hn2
                  obtain ⟨k, k1, k2⟩ := run_append_grow (ty := ty) ht hxT hs hx hu hi z2 hxu hdx hn hgt (f2 cap hgt) f1 (srcRow_ok hsL hold R').2.1 (hnew _ R')
                  rcases rowAppK_ok old (Nat.mul n2 i.size) new (fun r => growTo e r (Nat.add n2 (n + 1)) h nx) Rs.fail with ⟨q1, r', q2, q3⟩ | q3
                  · rw [q3]
                    have q2 : r'.toList = old.toList ++ new.toList := by rw [q2, List.take_of_length_le (by rw [o5]; exact Nat.le_refl _)]
                    have hal : AV.allL c.L (old.toList ++ new.toList) := by
                      rw [AV.allL_iff]; intro v hv
                      rcases List.mem_append.1 hv with hv | hv
                      · exact (AV.allL_iff _ _).1 o3 v hv
                      · exact (AV.allL_iff _ _).1 s3 v hv
                    refine growTo_ok R e i hi zv.cells hzsz (old.toList ++ new.toList) r' q2 hal (by rw [List.all_append, o4, s4]; rfl) _ k (by rw [List.length_append, o5, s5, ← Nat.add_mul]; rfl) k1 ?_
                    rw [k2]
                    simp [AV.concL_map]
                  · rw [q3]; trivial
                · trivial
          case sliceU b off len cut =>
            cases hop : openOk P h e b off len cut with
            | false => trivial
            | true =>
              obtain ⟨_, hk, hoff, _⟩ := openOk_ok R hsL hop
              have hcs : P.cellsOf e = i.size := by simp [Program.cellsOf, hi]
              rw [hcs] at hoff
              cases n with
              | zero =>
                refine OpOk.same R ?_ hsL
                rw [run_append_room ht hxT hs hx hu hi hxu hdx hn (by omega) (hnew w R)]
                have : new.toList = [] := List.eq_nil_of_length_eq_zero (by simpa using s5)
                simp [this, AV.concL, storeCells, AV.conc]
              | succ n =>
                simp only
                split
                · rename_i el r tail frz plain ho
                  have hop2 := hop
                  unfold openOk at hop2
                  rw [ho] at hop2
                  cases tail with
                  | false => cases hop2
                  | true =>
                    simp only at hop2
                    split at hop2
                    · rename_i i2 hi2 hel hz2
                      have hel := Nat.eq_of_beq_eq_true hel
                      subst hel
                      simp only [Bool.and_eq_true] at hop2
                      have hlen : (cut + len) * i.size ≤ r.toList.length := by rw [← hcs]; exact Nat.le_of_ble_eq_true hop2.2
                      split
                      · rename_i hin
                        have hin : (cut + (len + (n + 1))) * i.size ≤ r.toList.length := Nat.le_of_ble_eq_true hin
                        obtain ⟨rest, fz, g1, g2, g3, g4, g5⟩ := R.obj b _ hsL ho
                        have g5 := g5 rfl
                        rw [hcs] at g5
                        have hroom : len + (n + 1) ≤ c.κ b - cut := by
                          have : (cut + (len + (n + 1))) * i.size ≤ c.κ b * i.size := by omega
                          have := Nat.le_of_mul_le_mul_right this (Nat.pos_of_ne_zero hpos)
                          omega
                        refine storeRow_ok R hsL ho _ new s3 s4 (.sliceU b off (Nat.add len (n + 1)) cut) hsL ?_
                        rw [run_append_room ht hxT hs hx hu hi hxu hdx hn hroom (hnew w R)]
                        simp only [addr_add, List.toList_toArray]
                        rfl
                      · rename_i hin
                        have hin : r.toList.length < (cut + (len + (n + 1))) * i.size := by
                          rcases Nat.lt_or_ge r.toList.length ((cut + (len + (n + 1))) * i.size) with hh | hh
                          · exact hh
                          · have hh' : Nat.ble (Nat.mul (Nat.add cut (Nat.add len (n + 1))) i.size) r.toList.length = true := Nat.ble_eq_true_of_le hh
                            rw [hh'] at hin; cases hin
                        split
                        · rename_i hc0 hfit
                          have hc0 := Nat.eq_of_beq_eq_true hc0
                          subst hc0
                          have hoff0 : off = 0 := by rw [hoff, Nat.zero_mul]
                          subst hoff0
                          obtain ⟨f1, f2⟩ := fitsNew_ok hfit
                          rw [Nat.zero_add] at hlen hin
                          refine forkRow_ok R hsL ho i hi zv.cells hzsz hpos len (n + 1) new s5 s3 s4 hlen (by omega) ?_ ?_
                          · intro hk2
                            rw [run_append_room ht hxT hs hx hu hi hxu hdx hn (by omega) (hnew w R)]
                            simp only [addr_add, List.toList_toArray, Nat.zero_add, Nat.sub_zero]
                          · intro hk2
                            have hold : (Builtin.firstCells i.size len (.slice (some ⟨c.ρ b, 0, none⟩) len (c.κ b - 0))).run P w.drew = .ok (AV.concL σ c (r.toList.take (len * i.size))).toArray w.drew := by
                              simp only [Builtin.firstCells]
                              have := R'.loadCells hsL ho (off := 0) (vs := r.toList.take (len * i.size)) (fun j hj => by
                                rw [List.length_take, Nat.min_eq_left hlen] at hj
                                rw [Nat.zero_add, List.getElem?_take, if_pos hj])
                              rw [List.length_take, Nat.min_eq_left hlen] at this
                              exact this
                            obtain ⟨k, k1, k2⟩ := run_append_grow (ty := ty) ht hxT hs hx hu hi z2 hxu hdx hn (by omega) (f2 (c.κ b - 0) (by show c.κ b - 0 < len + (n + 1); omega)) f1 hold (hnew _ R')
                            refine ⟨k, k1, ?_⟩
                            rw [k2]
                            simp [AV.concL_map]
                        · trivial
                    · cases hop2
                · trivial
          case sliceZ b off step cut op =>
            cases n with
            | zero =>
              refine OpOk.same R ?_ hsL
              rw [run_append_room ht hxT hs hx hu hi hxu hdx hn (by omega) (hnew w R)]
              have : new.toList = [] := List.eq_nil_of_length_eq_zero (by simpa using s5)
              simp [this, AV.concL, storeCells, AV.conc]
            | succ n =>
              simp only
              split
              · rename_i hfit
                obtain ⟨f1, f2⟩ := fitsNew_ok hfit
                obtain ⟨k, k1, k2⟩ := run_append_grow (ty := ty) ht hxT hs hx hu hi z2 hxu hdx hn (by simp) (by rw [Nat.zero_add]; simp; exact f2 0 (by omega)) (by omega) (old := #[]) (by simp [Builtin.firstCells, Go.loadCells, loadCellsFrom]) (hnew _ R')
                rw [Nat.zero_add] at k1 k2
                exact growTo_ok R e i hi zv.cells hzsz new.toList new rfl s3 s4 (n + 1) k s5 k1 (by rw [k2]; simp)
              · trivial
        · trivial
      · trivial

end
end
end Go.Ev
