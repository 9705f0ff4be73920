/- The quick machine's operations are those of the slow one. -/
import Derived.Test.YteijaoaiiddcgaaGreatDoorEvFst0
import Derived.Test.YteijaoaiiddcgaaGreatDoorEvSnd2
namespace Go.Ev
open Go

theorem getO_eq (k : AV → Rs) (d : Rs) : ∀ (p : Pos) (t : Tr AV), getO p t k d = match Tr.get p t with | some a => k a | none => d
  | .h, .leaf => rfl
  | .h, .n _ none _ => rfl
  | .h, .n _ (some _) _ => rfl
  | .o _, .leaf => rfl
  | .i _, .leaf => rfl
  | .o p, .n l _ _ => getO_eq k d p l
  | .i p, .n _ _ r => getO_eq k d p r

theorem getH_eq (k : Obj → Rs) (d : Rs) : ∀ (p : Pos) (t : Tr Obj), getH p t k d = match Tr.get p t with | some a => k a | none => d
  | .h, .leaf => rfl
  | .h, .n _ none _ => rfl
  | .h, .n _ (some _) _ => rfl
  | .o _, .leaf => rfl
  | .i _, .leaf => rfl
  | .o p, .n l _ _ => getH_eq k d p l
  | .i p, .n _ _ r => getH_eq k d p r

theorem setO_eq (x : AV) : ∀ (p : Pos) (t : Tr AV) (k : Tr AV → Rs), setO p x t k = k (Tr.set p x t)
  | .h, .leaf, _ => rfl
  | .h, .n .., _ => rfl
  | .o p, .leaf, k => setO_eq x p .leaf fun l => k (.n l none .leaf)
  | .o p, .n l v r, k => setO_eq x p l fun l => k (.n l v r)
  | .i p, .leaf, k => setO_eq x p .leaf fun r => k (.n .leaf none r)
  | .i p, .n l v r, k => setO_eq x p r fun r => k (.n l v r)

theorem setH_eq (x : Obj) : ∀ (p : Pos) (t : Tr Obj) (k : Tr Obj → Rs), setH p x t k = k (Tr.set p x t)
  | .h, .leaf, _ => rfl
  | .h, .n .., _ => rfl
  | .o p, .leaf, k => setH_eq x p .leaf fun l => k (.n l none .leaf)
  | .o p, .n l v r, k => setH_eq x p l fun l => k (.n l v r)
  | .i p, .leaf, k => setH_eq x p .leaf fun r => k (.n .leaf none r)
  | .i p, .n l v r, k => setH_eq x p r fun r => k (.n l v r)

theorem nthF_eq (k : AV → Rs) (d : Rs) : ∀ (n : Nat) (l : List AV), nthF n l k d = match nthN n l with | some a => k a | none => d
  | 0, [] => rfl
  | 0, _ :: _ => rfl
  | _ + 1, [] => rfl
  | n + 1, _ :: t => nthF_eq k d n t

theorem dropF_eq (k : List AV → Rs) : ∀ (n : Nat) (l : List AV), dropF n l k = k (dropN n l)
  | 0, _ => rfl
  | _ + 1, [] => rfl
  | n + 1, _ :: t => dropF_eq k n t

theorem takeF_eq : ∀ (n : Nat) (l : List AV) (k : List AV → Rs) (d : Rs), takeF n l k d = takeK n l k d
  | 0, _, _, _ => rfl
  | _ + 1, [], _, _ => rfl
  | n + 1, a :: t, k, d => takeF_eq n t (fun x => k (a :: x)) d

theorem overF_eq : ∀ (vs l : List AV) (k : List AV → Rs) (d : Rs), overF vs l k d = overK vs l k d
  | [], _, _, _ => rfl
  | _ :: _, [], _, _ => rfl
  | v :: vs, _ :: t, k, d => overF_eq vs t (fun x => k (v :: x)) d

theorem spliceF_eq : ∀ (n : Nat) (vs l : List AV) (k : List AV → Rs) (d : Rs), spliceF n vs l k d = spliceK n vs l k d
  | 0, vs, l, k, d => overF_eq vs l k d
  | _ + 1, _, [], _, _ => rfl
  | n + 1, vs, a :: t, k, d => spliceF_eq n vs t (fun x => k (a :: x)) d

theorem lenF_eq : ∀ (n : Nat) (l : List AV) (t f : Rs), lenF n l t f = if l.length = n then t else f
  | 0, [], _, _ => rfl
  | 0, _ :: _, _, _ => rfl
  | _ + 1, [], _, _ => rfl
  | n + 1, _ :: l, t, f => by
    have := lenF_eq n l t f
    simp only [List.length_cons, Nat.add_right_cancel_iff]
    exact this

theorem natF_eq (n : Nat) (k : Nat → Rs) : natF n k = k n := by cases n <;> rfl
theorem truthF_eq (b : Bool) (k : AV → Rs) : truthF b k = k (.bool b) := by cases b <;> rfl
theorem ifF_eq (b : Bool) (t f : Rs) : ifF b t f = match b with | true => t | false => f := by cases b <;> rfl
theorem kindF_eq (k j : IntKind) (t f : Rs) : kindF k j t f = if k = j then t else f := by cases k <;> cases j <;> rfl
theorem intF_eq (v : AV) (f : IntKind → Nat → Rs) (d : Rs) : v.intF f d = match v with | .int k u => f k u | _ => d := by cases v <;> rfl
theorem ptrF_eq (v : AV) (f : Pos → Nat → Rs) (d : Rs) : v.ptrF f d = match v with | .ptr k u => f k u | _ => d := by cases v <;> rfl
theorem strF_eq (v : AV) (f : Nat → Nat → Rs) (d : Rs) : v.strF f d = match v with | .str k u => f k u | _ => d := by cases v <;> rfl
theorem aggF_eq (v : AV) (f : List AV → Rs) (d : Rs) : v.aggF f d = match v with | .agg l => f l | _ => d := by cases v <;> rfl
theorem tupF_eq (v : AV) (f : List AV → Rs) (d : Rs) : v.tupF f d = match v with | .tup l => f l | _ => d := by cases v <;> rfl
theorem boolF_eq (v : AV) (t f d : Rs) : v.boolF t f d = match v with | .bool true => t | .bool false => f | _ => d := by
  cases v <;> first
    | rfl
    | skip
  rename_i b; cases b <;> rfl
theorem cellsF_eq (v w : AV) (f : List AV → Rs) (d : Rs) (hw : w = v) : v.cellsF w f d = match v.cells with | some l => f l | none => d := by
  subst hw; cases w <;> rfl
theorem rowF_eq (o : Obj) (f : TypeId → Row → Bool → Nat → Bool → Rs) (d : Rs) : o.rowF f d = match o with | .row e r t z p => f e r t z p | _ => d := by cases o <;> rfl
theorem valF_eq (r : Rs) (k : KV) : r.valF k = match r with | .val v h nx => k v h nx | .fail => .fail := by cases r <;> rfl

theorem tmpW_ok {t : Nat} {g : FG} (h : tmpW t = .mk g) (e : En) (k : AV → Rs) : g e k = k (getA e t) := by
  unfold tmpW at h
  unfold getA
  cases ht : Nat.blt t 256 with
  | true =>
    have hlt : t < 256 := by rw [Nat.blt_eq] at ht; exact ht
    cases h1 : gLoW (Nat.mod t 16) with
    | mk lo =>
    cases h2 : gHiW (Nat.div t 16) with
    | mk hi =>
    rw [ht, h1, h2] at h
    cases h
    have e1 : Nat.div t 16 = t / 16 := rfl
    have e2 : Nat.mod t 16 = t % 16 := rfl
    show hi e (fun b => lo b k) = _
    rw [gHiW_ok (by omega) h2, gLoW_ok (by omega) h1]
  | false =>
    rw [ht] at h; simp only at h
    cases h
    show getO (posOf t) e.r k (k .undef) = _
    rw [getO_eq]
    cases Tr.get (posOf t) e.r <;> rfl

theorem putW_ok {t : Nat} {p : FP} (h : putW t = .mk p) (v : AV) (e : En) (k : En → Rs) : p v e k = k (En.put t v e) := by
  unfold putW at h
  unfold En.put
  cases ht : Nat.blt t 256 with
  | true =>
    have hlt : t < 256 := by rw [Nat.blt_eq] at ht; exact ht
    cases h1 : sLoW (Nat.mod t 16) with
    | mk lo =>
    cases h2 : sHiW (Nat.div t 16) with
    | mk hi =>
    rw [ht, h1, h2] at h
    cases h
    have e1 : Nat.div t 16 = t / 16 := rfl
    have e2 : Nat.mod t 16 = t % 16 := rfl
    show hi lo v e k = _
    rw [sHiW_ok (by omega) h2, sLoW_ok (by omega) h1]
  | false =>
    rw [ht] at h; simp only at h
    cases h
    show setO (posOf t) v e.r (fun r => k ⟨e.c0, e.c1, e.c2, e.c3, e.c4, e.c5, e.c6, e.c7, e.c8, e.c9, e.c10, e.c11, e.c12, e.c13, e.c14, e.c15, r⟩) = _
    rw [setO_eq]

def C1 (c : F1) (s : AV → Tr Obj → Pos → Rs) : Prop := ∀ x h nx k, c x h nx k = .fail ∨ ∃ v h' nx', s x h nx = .val v h' nx' ∧ c x h nx k = k v h' nx'
/-- An operation whose value does not hang on memory. -/
def C1i (c : F1) (q : AV → Tr Obj → Option AV) : Prop := ∀ x h nx k, c x h nx k = .fail ∨ ∃ v, (∀ h', q x h' = some v) ∧ c x h nx k = k v h nx
def C2i (c : F2) (q : AV → AV → Tr Obj → Option AV) : Prop := ∀ x y h nx k, c x y h nx k = .fail ∨ ∃ v, (∀ h', q x y h' = some v) ∧ c x y h nx k = k v h nx
def C2 (c : F2) (s : AV → AV → Tr Obj → Pos → Rs) : Prop := ∀ x y h nx k, c x y h nx k = .fail ∨ ∃ v h' nx', s x y h nx = .val v h' nx' ∧ c x y h nx k = k v h' nx'

section
variable {P : Program}

theorem cellF_eq (off : Nat) (r : Row) (k : AV → Rs) : cellF off r k = match rowGet r off with | some v => k v | none => .fail := by
  cases r with
  | cs x => exact nthF_eq k .fail off x
  | bs n c =>
    show ifF (Nat.blt off n) (natF (Nat.mod (Nat.shiftRight c (Nat.mul 8 off)) 256) fun u => k (.int .u8 u)) .fail = _
    rw [ifF_eq, natF_eq]
    unfold rowGet
    simp only
    cases Nat.blt off n <;> rfl

theorem cLoad_ok {t : TypeId} (ht : isAggT P t = some false) : C1 cLoad fun x h nx => Rs.pure h nx (evLoad P h t x) := by
  intro x h nx k
  unfold cLoad
  rw [ptrF_eq]
  cases x <;> first
    | (exact .inl rfl)
    | skip
  rename_i b off
  simp only [getH_eq, evLoad, loadAt]
  cases Tr.get b h with
  | none => exact .inl rfl
  | some o =>
    simp only [rowF_eq]
    cases o with
    | row e r tl z p =>
      simp only [ht, cellF_eq]
      cases rowGet r off with
      | none => exact .inl rfl
      | some v => exact .inr ⟨v, h, nx, rfl, rfl⟩
    | _ => exact .inl rfl

theorem cLoadA_ok {t : TypeId} (ht : isAggT P t = some true) : C1 (cLoadA (P.cellsOf t)) fun x h nx => Rs.pure h nx (evLoad P h t x) := by
  intro x h nx k
  unfold cLoadA
  rw [ptrF_eq]
  cases x <;> first
    | (exact .inl rfl)
    | skip
  rename_i b off
  simp only [getH_eq, evLoad, loadAt]
  cases Tr.get b h with
  | none => exact .inl rfl
  | some o =>
    simp only [rowF_eq]
    cases o with
    | row e r tl z p =>
      cases r with
      | bs n c => exact .inl rfl
      | cs l =>
        simp only [ht, Row.csF, dropF_eq, takeF_eq, takeK_eq, Row.toList]
        cases takeN (P.cellsOf t) (dropN off l) with
        | none => exact .inl rfl
        | some v => exact .inr ⟨.agg v, h, nx, rfl, rfl⟩
    | _ => exact .inl rfl

theorem cStore_ok {t : TypeId} {i} (ht : P.info? t = some i) : C2 (cStore (P.cellsOf t)) fun a v h nx => evStore P t a v h nx := by
  intro a v h nx k
  unfold cStore
  rw [ptrF_eq]
  cases a <;> first
    | (exact .inl rfl)
    | skip
  rename_i b off
  simp only [getH_eq, evStore]
  cases Tr.get b h with
  | none => exact .inl rfl
  | some o =>
    simp only [rowF_eq]
    cases o with
    | row e r tl z p =>
      simp only [cellsF_eq v v _ _ rfl]
      cases v.cells with
      | none => exact .inl rfl
      | some l =>
        simp only [lenF_eq, ifF_eq, ht]
        by_cases hl : l.length = P.cellsOf t
        · rw [if_pos hl]
          have : Nat.beq l.length (P.cellsOf t) = true := by rw [hl]; exact Nat.beq_refl _
          rw [this]
          cases Nat.ble z off with
          | false => exact .inl rfl
          | true =>
            cases r with
            | bs n c => exact .inl rfl
            | cs x =>
              simp only [Row.csF, spliceF_eq, spliceK_eq, setH_eq, Tr.setK_eq, Row.toList]
              by_cases hs : off + l.length ≤ x.length
              · rw [if_pos hs, if_pos hs]
                exact .inr ⟨_, _, _, rfl, rfl⟩
              · rw [if_neg hs]; exact .inl rfl
        · rw [if_neg hl]; exact .inl rfl
    | _ => exact .inl rfl

theorem cFieldAddr_ok {t : TypeId} {f : Nat} {fs fd i} (h1 : P.underlying t = some (.struct fs)) (h2 : fs[f]? = some fd) (h3 : P.info? fd.type = some i) (h4 : Nat.beq (P.cellsOf fd.type) 0 = false) :
    C1 (cFieldAddr fd.offset) fun x h nx => Rs.pure h nx (evFieldAddr P t f x) := by
  intro x h nx k
  unfold cFieldAddr
  rw [ptrF_eq]
  cases x <;> first
    | (exact .inl rfl)
    | skip
  rename_i b off
  simp only [natF_eq, evFieldAddr, h1, h2, h3, h4]
  exact .inr ⟨_, _, _, rfl, rfl⟩

theorem cField_ok {t : TypeId} {f : Nat} {fs fd} (h1 : P.underlying t = some (.struct fs)) (h2 : fs[f]? = some fd) (h3 : isAggT P fd.type = some false) :
    C1 (cField fd.offset) fun x h nx => Rs.pure h nx (evField P t f x) := by
  intro x h nx k
  unfold cField
  rw [aggF_eq]
  cases x <;> first
    | (exact .inl rfl)
    | skip
  rename_i l
  simp only [nthF_eq, evField, h1, h2, partL, h3]
  cases nthN fd.offset l with
  | none => exact .inl rfl
  | some v => exact .inr ⟨_, _, _, rfl, rfl⟩

theorem cFieldA_ok {t : TypeId} {f : Nat} {fs fd} (h1 : P.underlying t = some (.struct fs)) (h2 : fs[f]? = some fd) (h3 : isAggT P fd.type = some true) :
    C1 (cFieldA fd.offset (P.cellsOf fd.type)) fun x h nx => Rs.pure h nx (evField P t f x) := by
  intro x h nx k
  unfold cFieldA
  rw [aggF_eq]
  cases x <;> first
    | (exact .inl rfl)
    | skip
  rename_i l
  simp only [dropF_eq, takeF_eq, takeK_eq, evField, h1, h2, partL, h3]
  cases takeN (P.cellsOf fd.type) (dropN fd.offset l) with
  | none => exact .inl rfl
  | some v => exact .inr ⟨_, _, _, rfl, rfl⟩

theorem cExtract_ok {i : Nat} : C1 (cExtract i) fun x h nx => Rs.pure h nx (evExtract i x) := by
  intro x h nx k
  unfold cExtract
  rw [tupF_eq]
  cases x <;> first
    | (exact .inl rfl)
    | skip
  rename_i l
  simp only [nthF_eq, evExtract]
  cases nthN i l with
  | none => exact .inl rfl
  | some v => exact .inr ⟨_, _, _, rfl, rfl⟩

theorem outF_ok (o : Option AV) (k : AV → Rs) : outF o k = match o with | some v => k v | none => .fail := by
  cases o with
  | none => rfl
  | some v => exact AV.forceK_eq v k

theorem cNil_ok : C1 cNil fun x h nx => Rs.pure h nx (evNil x) := by
  intro x h nx k
  unfold cNil
  rw [ptrF_eq, outF_ok]
  cases x with
  | ptr b off => exact .inr ⟨_, _, _, rfl, rfl⟩
  | _ =>
    simp only
    cases evNil _ with
    | none => exact .inl rfl
    | some v => exact .inr ⟨_, _, _, rfl, rfl⟩

theorem idxF_eq (i : AV) (k : Nat → Rs) : idxF i k = match idxN i with | some n => k n | none => .fail := by
  unfold idxF
  rw [intF_eq]
  cases i with
  | int kd u =>
    simp only [ifF_eq, idxN]
    cases natN kd u <;> rfl
  | _ => rfl

theorem cIndexAddr_ok {t e : TypeId} {i} (h1 : P.underlying t = some (.slice e)) (h2 : P.info? e = some i) : C2 (cIndexAddr (P.cellsOf e)) fun x y h nx => Rs.pure h nx (evIndexAddr P t x y) := by
  intro x y h nx k
  unfold cIndexAddr
  rw [idxF_eq]
  dsimp only
  unfold evIndexAddr
  cases idxN y with
  | none => exact .inl rfl
  | some n =>
    simp only [h1]
    cases x <;> first
      | (exact .inl rfl)
      | skip
    all_goals
      rename_i b off len cap
      show (ifF (Nat.blt n len) (natF (Nat.add off (Nat.mul n (P.cellsOf e))) fun o => k (.ptr b o) h nx) .fail) = .fail ∨ ∃ v h' nx', _ ∧ (ifF (Nat.blt n len) (natF (Nat.add off (Nat.mul n (P.cellsOf e))) fun o => k (.ptr b o) h nx) .fail) = k v h' nx'
      simp only [ifF_eq, natF_eq, h2]
      cases Nat.blt n len with
      | false => exact .inl rfl
      | true => exact .inr ⟨_, _, _, rfl, rfl⟩

theorem cIndexAddrA_ok {t e : TypeId} {len : Nat} {i} (h1 : P.underlying t = some (.array len e)) (h2 : P.info? e = some i) : C2 (cIndexAddrA len (P.cellsOf e)) fun x y h nx => Rs.pure h nx (evIndexAddr P t x y) := by
  intro x y h nx k
  unfold cIndexAddrA
  rw [idxF_eq]
  dsimp only
  unfold evIndexAddr
  cases idxN y with
  | none => exact .inl rfl
  | some n =>
    simp only [h1, ptrF_eq]
    cases x <;> first
      | (exact .inl rfl)
      | skip
    rename_i b off
    simp only [ifF_eq, natF_eq, h2]
    cases Nat.blt n len with
    | false => exact .inl rfl
    | true => exact .inr ⟨_, _, _, rfl, rfl⟩

theorem cIndexS_ok {t : TypeId} (h1 : P.underlying t = some .string) : C2 cIndexS fun x y h nx => Rs.pure h nx (evIndex P t x y) := by
  intro x y h nx k
  unfold cIndexS
  rw [idxF_eq]
  dsimp only
  unfold evIndex
  cases idxN y with
  | none => exact .inl rfl
  | some n =>
    simp only [h1, strF_eq]
    cases x <;> first
      | (exact .inl rfl)
      | skip
    rename_i m d
    simp only [ifF_eq, natF_eq]
    cases Nat.blt n m with
    | false => exact .inl rfl
    | true => exact .inr ⟨_, _, _, rfl, rfl⟩

theorem twoF_cases (kd : IntKind) (x y : AV) (k : Nat → Nat → Rs) : twoF kd x y k = .fail ∨ ∃ u v, x = .int kd u ∧ y = .int kd v ∧ twoF kd x y k = k u v := by
  unfold twoF
  simp only [intF_eq]
  cases x <;> first
    | (exact .inl rfl)
    | skip
  rename_i a u
  simp only [intF_eq]
  cases y <;> first
    | (exact .inl rfl)
    | skip
  rename_i b v
  simp only [kindF_eq]
  by_cases h1 : kd = a
  · by_cases h2 : kd = b
    · subst h1 h2; exact .inr ⟨u, v, rfl, rfl, by simp⟩
    · simp [h2]
  · simp [h1]

theorem evBin_int {kd : IntKind} {op : BinOp} {t : TypeId} {cst : Bool} {u v : Nat} {h : Tr Obj} (hop : op ≠ .shl ∧ op ≠ .shr) : evBin P op t cst (.int kd u) (.int kd v) h = binInt op kd u v := by
  cases op <;> first
    | (exact absurd rfl hop.1)
    | (exact absurd rfl hop.2)
    | simp [evBin]

theorem cArith_ok {kd : IntKind} {op : BinOp} {t : TypeId} {cst : Bool} {f : Nat → Nat → Nat} (hop : op ≠ .shl ∧ op ≠ .shr) (hf : ∀ u v, binInt op kd u v = some (.int kd (f u v))) :
    C2i (cArith kd f) fun x y h => evBin P op t cst x y h := by
  intro x y h nx k
  rcases twoF_cases kd x y fun u v => natF (f u v) fun w => k (.int kd w) h nx with h1 | ⟨u, v, rfl, rfl, h1⟩
  · exact .inl h1
  · refine .inr ⟨.int kd (f u v), fun h' => (evBin_int hop).trans (hf u v), ?_⟩
    show twoF kd _ _ _ = _
    rw [h1, natF_eq]

theorem cTest_ok {kd : IntKind} {op : BinOp} {t : TypeId} {cst : Bool} {f : Nat → Nat → Bool} (hop : op ≠ .shl ∧ op ≠ .shr) (hf : ∀ u v, binInt op kd u v = some (.bool (f u v))) :
    C2i (cTest kd f) fun x y h => evBin P op t cst x y h := by
  intro x y h nx k
  rcases twoF_cases kd x y fun u v => truthF (f u v) fun w => k w h nx with h1 | ⟨u, v, rfl, rfl, h1⟩
  · exact .inl h1
  · refine .inr ⟨.bool (f u v), fun h' => (evBin_int hop).trans (hf u v), ?_⟩
    show twoF kd _ _ _ = _
    rw [h1, truthF_eq]

theorem cQuo_ok {kd : IntKind} {op : BinOp} {t : TypeId} {cst : Bool} {f : Nat → Nat → Nat} (hop : op ≠ .shl ∧ op ≠ .shr) (hf : ∀ u v, natN kd u = true → natN kd v = true → Nat.beq v 0 = false → binInt op kd u v = some (.int kd (f u v))) :
    C2i (cQuo kd f) fun x y h => evBin P op t cst x y h := by
  intro x y h nx k
  rcases twoF_cases kd x y fun u v => ifF (natN kd u) (ifF (natN kd v) (ifF (Nat.beq v 0) .fail (natF (f u v) fun w => k (.int kd w) h nx)) .fail) .fail with h1 | ⟨u, v, rfl, rfl, h1⟩
  · exact .inl h1
  · have h2 : cQuo kd f (.int kd u) (.int kd v) h nx k = _ := h1
    rw [h2]
    simp only [ifF_eq, natF_eq]
    cases e1 : natN kd u with
    | false => exact .inl rfl
    | true =>
      cases e2 : natN kd v with
      | false => exact .inl rfl
      | true =>
        cases e3 : Nat.beq v 0 with
        | true => exact .inl rfl
        | false => exact .inr ⟨.int kd (f u v), fun h' => (evBin_int hop).trans (hf u v e1 e2 e3), rfl⟩

theorem cShift_ok {op : BinOp} {t : TypeId} {cst : Bool} (hop : op = .shl ∨ op = .shr) : C2i (cShift op) fun x y h => evBin P op t cst x y h := by
  intro x y h nx k
  unfold cShift
  simp only [intF_eq]
  cases x <;> first
    | (exact .inl rfl)
    | skip
  rename_i a u
  simp only [intF_eq]
  cases y <;> first
    | (exact .inl rfl)
    | skip
  rename_i b v
  have : ∀ h, evBin P op t cst (.int a u) (.int b v) h = shInt op a u b v := fun h => by rcases hop with rfl | rfl <;> rfl
  simp only [this, outF_ok]
  cases shInt op a u b v with
  | none => exact .inl rfl
  | some v => exact .inr ⟨_, fun _ => rfl, rfl⟩

theorem cStr_ok {op : BinOp} {t : TypeId} {cst : Bool} : C2i (cStr op) fun x y h => evBin P op t cst x y h := by
  intro x y h nx k
  unfold cStr
  simp only [strF_eq]
  cases x <;> first
    | (exact .inl rfl)
    | skip
  rename_i n a
  simp only [strF_eq]
  cases y <;> first
    | (exact .inl rfl)
    | skip
  rename_i m b
  have : ∀ h, evBin P op t cst (.str n a) (.str m b) h = binStr op n a m b := fun h => rfl
  simp only [this, outF_ok]
  cases binStr op n a m b with
  | none => exact .inl rfl
  | some v => exact .inr ⟨_, fun _ => rfl, rfl⟩

theorem cNot_ok : C1 cNot fun x h nx => Rs.pure h nx (evUn .not x) := by
  intro x h nx k
  unfold cNot
  rw [boolF_eq]
  cases x <;> first
    | (exact .inl rfl)
    | skip
  rename_i b
  cases b <;> exact .inr ⟨_, _, _, rfl, rfl⟩

theorem cLen_ok {t e : TypeId} (h1 : P.underlying t = some (.slice e)) : C1 cLen fun x h nx => Rs.pure h nx (evLenS P t x h) := by
  intro x h nx k
  unfold evLenS evLen
  simp only [h1]
  cases x <;> first
    | (exact .inl rfl)
    | skip
  case nils => exact .inr ⟨_, _, _, rfl, rfl⟩
  case sliceZ => exact .inr ⟨_, _, _, rfl, rfl⟩
  all_goals
    rename_i b off len cap
    show ifF (Nat.blt len 9223372036854775808) (k (.int .i64 len) h nx) .fail = .fail ∨ ∃ v h' nx', _ ∧ ifF (Nat.blt len 9223372036854775808) (k (.int .i64 len) h nx) .fail = k v h' nx'
    simp only [ifF_eq]
    cases Nat.blt len 9223372036854775808 with
    | false => exact .inl rfl
    | true => exact .inr ⟨_, _, _, rfl, rfl⟩

theorem cLenS_ok {t : TypeId} (h1 : P.underlying t = some .string) : C1 cLenS fun x h nx => Rs.pure h nx (evLenS P t x h) := by
  intro x h nx k
  unfold cLenS evLenS evLen
  rw [strF_eq]
  simp only [h1]
  cases x <;> first
    | (exact .inl rfl)
    | skip
  rename_i n d
  simp only [ifF_eq]
  cases Nat.blt n 9223372036854775808 with
  | false => exact .inl rfl
  | true => exact .inr ⟨_, _, _, rfl, rfl⟩

theorem kindOf_some {t : TypeId} {k : IntKind} (h : kindOf P t = some k) : P.underlying t = some (.int k) := by
  unfold kindOf at h
  split at h
  · rename_i e; cases h; exact e
  · cases h

theorem evConvQ_int {s d : TypeId} {jd kd : IntKind} {u : Nat} (h1 : kindOf P s = some jd) (h2 : kindOf P d = some kd) (h : Tr Obj) (a : IntKind) : evConvQ P s d (.int a u) h = evConvInt kd a u := by
  unfold evConvQ evConvert
  simp only [kindOf_some h1, kindOf_some h2]
  cases evConvInt kd a u <;> rfl

theorem evConvQ_pure {s d : TypeId} {jd kd : IntKind} (h1 : kindOf P s = some jd) (h2 : kindOf P d = some kd) (x : AV) (h : Tr Obj) (nx : Pos) : evConvert P s d x h nx = Rs.pure h nx (evConvQ P s d x h) := by
  cases x with
  | int a u => rw [evConvQ_int h1 h2]; unfold evConvert; simp only [kindOf_some h1, kindOf_some h2]
  | _ => unfold evConvQ evConvert; simp only [kindOf_some h1, kindOf_some h2]; rfl

theorem cConv_ok {s d : TypeId} {jd kd : IntKind} (h1 : kindOf P s = some jd) (h2 : kindOf P d = some kd) (h3 : Nat.ble kd.bits jd.bits = true) : C1i (cConv kd jd) fun x h => evConvQ P s d x h := by
  intro x h nx k
  unfold cConv
  rw [intF_eq]
  cases x <;> first
    | (exact .inl rfl)
    | skip
  rename_i a u
  simp only [kindF_eq, natF_eq, evConvQ_int h1 h2]
  by_cases h4 : jd = a
  · subst h4
    rw [if_pos rfl]
    simp only [evConvInt, h3]
    exact .inr ⟨_, fun _ => rfl, rfl⟩
  · rw [if_neg h4]; exact .inl rfl

theorem cConvW_ok {s d : TypeId} {jd kd : IntKind} (h1 : kindOf P s = some jd) (h2 : kindOf P d = some kd) (h3 : Nat.ble kd.bits jd.bits = false) : C1i (cConvW kd jd) fun x h => evConvQ P s d x h := by
  intro x h nx k
  unfold cConvW
  rw [intF_eq]
  cases x <;> first
    | (exact .inl rfl)
    | skip
  rename_i a u
  simp only [kindF_eq, ifF_eq, evConvQ_int h1 h2]
  by_cases h4 : jd = a
  · subst h4
    rw [if_pos rfl]
    simp only [evConvInt, h3]
    cases natN jd u with
    | false => exact .inl rfl
    | true => exact .inr ⟨_, fun _ => rfl, rfl⟩
  · rw [if_neg h4]; exact .inl rfl

theorem intOp_ok {op : BinOp} {kd : IntKind} {c : F2} (h : intOp op kd = some c) (t : TypeId) (cst : Bool) : C2i c fun x y h => evBin P op t cst x y h := by
  cases op <;> simp only [intOp, Option.some.injEq, reduceCtorEq] at h <;> subst h
  case add => exact cArith_ok (by simp) fun _ _ => rfl
  case sub => exact cArith_ok (by simp) fun _ _ => rfl
  case mul => exact cArith_ok (by simp) fun _ _ => rfl
  case and => exact cArith_ok (by simp) fun _ _ => rfl
  case or => exact cArith_ok (by simp) fun _ _ => rfl
  case xor => exact cArith_ok (by simp) fun _ _ => rfl
  case eql => exact cTest_ok (by simp) fun _ _ => rfl
  case neq => exact cTest_ok (by simp) fun _ _ => rfl
  case lss => exact cTest_ok (by simp) fun _ _ => rfl
  case leq => exact cTest_ok (by simp) fun _ _ => rfl
  case gtr => exact cTest_ok (by simp) fun _ _ => rfl
  case geq => exact cTest_ok (by simp) fun _ _ => rfl
  case quo => exact cQuo_ok (by simp) fun u v h1 h2 h3 => by simp [binInt, h1, h2, h3]
  case rem => exact cQuo_ok (by simp) fun u v h1 h2 h3 => by simp [binInt, h1, h2, h3]
  case shl => exact cShift_ok (.inl rfl)
  case shr => exact cShift_ok (.inr rfl)

theorem callable_ok {f : FuncId} (h : callable P f = true) : ∃ fn b, P.funcs[f]? = some fn ∧ fn.body = some b ∧ (fn.name == "runtime.NumGoroutine") = false := by
  unfold callable at h
  split at h
  · rename_i fn hf
    split at h
    · rename_i b hb
      exact ⟨fn, b, hf, hb, by simpa using h⟩
    · cases h
  · cases h

/-- What an operation yields that leaves memory alone. -/
noncomputable def qOf (P : Program) (o : Oper) (xs : List AV) (h : Tr Obj) : Option AV := match o.op with
  | .call c => evClQ P c xs h
  | _ => evQ P o xs h

/-- What is shown of an operation's kind. -/
inductive CoreOk (P : Program) (o : Oper) : CW → Prop where
  | mv (x : Operand) (ops : o.op.operands.toList = [x]) (eff : isEff o = false) (al : isAlloc o = false) (dep : isDep o = false) (q : ∀ a h, qOf P o [a] h = some a)
    (ev : ∀ ex cl a h nx, evO P ex cl o [a] h nx = .val a h nx) : CoreOk P o (.mv x)
  | one (x : Operand) (c : F1) (dep : Bool) (ops : o.op.operands.toList = [x]) (eff : isEff o = false) (al : isAlloc o = false)
    (ev : ∀ ex cl a h nx, evO P ex cl o [a] h nx = Rs.pure h nx (qOf P o [a] h))
    (still : dep = false → ∀ a h h', qOf P o [a] h = qOf P o [a] h')
    (ok : ∀ a h nx k, c a h nx k = .fail ∨ ∃ v, qOf P o [a] h = some v ∧ c a h nx k = k v h nx) : CoreOk P o (.one x c dep)
  | two (x y : Operand) (c : F2) (dep : Bool) (ops : o.op.operands.toList = [x, y]) (eff : isEff o = false) (al : isAlloc o = false)
    (ev : ∀ ex cl a b h nx, evO P ex cl o [a, b] h nx = Rs.pure h nx (qOf P o [a, b] h))
    (still : dep = false → ∀ a b h h', qOf P o [a, b] h = qOf P o [a, b] h')
    (ok : ∀ a b h nx k, c a b h nx k = .fail ∨ ∃ v, qOf P o [a, b] h = some v ∧ c a b h nx k = k v h nx) : CoreOk P o (.two x y c dep)
  | eff (x y : Operand) (c : F2) (ops : o.op.operands.toList = [x, y]) (eff : isEff o = true)
    (ok : ∀ ex cl a b h nx k, c a b h nx k = .fail ∨ ∃ v h' nx', evO P ex cl o [a, b] h nx = .val v h' nx' ∧ c a b h nx k = k v h' nx') : CoreOk P o (.eff x y c)
  | call (f : FuncId) (xs : List Operand) (eff : isEff o = true) (ops : o.op.operands.toList = .func f :: xs)
    (ev : ∀ ex cl xs h nx, evO P ex cl o (.func (.func f) [] [] :: xs) h nx = cl f xs h nx) : CoreOk P o (.call f xs)
  | gen : CoreOk P o .gen

theorem evO_Q {o : Oper} (hop : ∀ c, o.op ≠ .call c) (hS : ∀ xs h nx, evS P o xs h nx = Rs.pure h nx (evQ P o xs h)) (ex : FuncId → List AV → Option AV) (cl : Callee) (xs : List AV) (h : Tr Obj) (nx : Pos) :
    evO P ex cl o xs h nx = Rs.pure h nx (qOf P o xs h) := by
  unfold evO qOf
  split
  · rename_i c hc; exact absurd hc (hop c)
  · rw [hS]
    split
    · rename_i c hc; exact absurd hc (hop c)
    · rfl

theorem CoreOk.ofC1 {o : Oper} {x : Operand} {c : F1} {q : AV → Tr Obj → Option AV} (hc : C1 c fun x h nx => Rs.pure h nx (q x h)) (ops : o.op.operands.toList = [x]) (eff : isEff o = false) (al : isAlloc o = false)
    (ev : ∀ ex cl a h nx, evO P ex cl o [a] h nx = Rs.pure h nx (qOf P o [a] h)) (hq : ∀ a h, qOf P o [a] h = q a h) : CoreOk P o (.one x c true) := by
  refine .one x c true ops eff al ev (fun hd => by cases hd) fun a h nx k => ?_
  rcases hc a h nx k with h1 | ⟨v, h', nx', h1, h2⟩
  · exact .inl h1
  · cases e : q a h with
    | none => simp only [e] at h1; cases h1
    | some u =>
      simp only [e] at h1
      cases h1
      exact .inr ⟨v, by rw [hq, e], h2⟩

theorem CoreOk.ofI1 {o : Oper} {x : Operand} {c : F1} {q : AV → Tr Obj → Option AV} (hc : C1i c q) (ops : o.op.operands.toList = [x]) (eff : isEff o = false) (al : isAlloc o = false)
    (ev : ∀ ex cl a h nx, evO P ex cl o [a] h nx = Rs.pure h nx (qOf P o [a] h)) (hq : ∀ a h, qOf P o [a] h = q a h) (hst : ∀ a h h', q a h = q a h') : CoreOk P o (.one x c false) := by
  refine .one x c false ops eff al ev (fun _ a h h' => by rw [hq, hq, hst]) fun a h nx k => ?_
  rcases hc a h nx k with h1 | ⟨v, h1, h2⟩
  · exact .inl h1
  · exact .inr ⟨v, by rw [hq, h1], h2⟩

theorem CoreOk.ofI2 {o : Oper} {x y : Operand} {c : F2} {q : AV → AV → Tr Obj → Option AV} (hc : C2i c q) (ops : o.op.operands.toList = [x, y]) (eff : isEff o = false) (al : isAlloc o = false)
    (ev : ∀ ex cl a b h nx, evO P ex cl o [a, b] h nx = Rs.pure h nx (qOf P o [a, b] h)) (hq : ∀ a b h, qOf P o [a, b] h = q a b h) (hst : ∀ a b h h', q a b h = q a b h') : CoreOk P o (.two x y c false) := by
  refine .two x y c false ops eff al ev (fun _ a b h h' => by rw [hq, hq, hst]) fun a b h nx k => ?_
  rcases hc a b h nx k with h1 | ⟨v, h1, h2⟩
  · exact .inl h1
  · exact .inr ⟨v, by rw [hq, h1], h2⟩

theorem C1.still {c : F1} {q : AV → Option AV} (hc : C1 c fun x h nx => Rs.pure h nx (q x)) : C1i c fun x _ => q x := by
  intro x h nx k
  rcases hc x h nx k with h1 | ⟨v, h', nx', h1, h2⟩
  · exact .inl h1
  · cases e : q x with
    | none => simp only [e] at h1; cases h1
    | some u => simp only [e] at h1; cases h1; exact .inr ⟨v, fun _ => e, h2⟩

theorem C2.still {c : F2} {q : AV → AV → Option AV} (hc : C2 c fun x y h nx => Rs.pure h nx (q x y)) : C2i c fun x y _ => q x y := by
  intro x y h nx k
  rcases hc x y h nx k with h1 | ⟨v, h', nx', h1, h2⟩
  · exact .inl h1
  · cases e : q x y with
    | none => simp only [e] at h1; cases h1
    | some u => simp only [e] at h1; cases h1; exact .inr ⟨v, fun _ => e, h2⟩

theorem evLenS_still {t : TypeId} (ht : (∃ e, P.underlying t = some (.slice e)) ∨ P.underlying t = some .string) (x : AV) (h h' : Tr Obj) : evLenS P t x h = evLenS P t x h' := by
  unfold evLenS evLen
  rcases ht with ⟨e, h1⟩ | h1 <;> simp only [h1]

theorem C1.lens {c : F1} {t : TypeId} (ht : (∃ e, P.underlying t = some (.slice e)) ∨ P.underlying t = some .string) (hc : C1 c fun x h nx => Rs.pure h nx (evLenS P t x h)) : C1i c fun x h => evLenS P t x h := by
  intro x h nx k
  rcases hc x h nx k with h1 | ⟨v, h', nx', h1, h2⟩
  · exact .inl h1
  · cases e : evLenS P t x h with
    | none => simp only [e] at h1; cases h1
    | some u => simp only [e] at h1; cases h1; exact .inr ⟨v, fun h'' => (evLenS_still ht x h'' h).trans e, h2⟩

theorem evBin_still {op : BinOp} {t : TypeId} {cst : Bool} (ht : (∃ k, P.underlying t = some (.int k)) ∨ P.underlying t = some .string) (x y : AV) (h h' : Tr Obj) : evBin P op t cst x y h = evBin P op t cst x y h' := by
  have key : evEq P t cst x y h = evEq P t cst x y h' := by
    rcases ht with ⟨k, h1⟩ | h1 <;> cases x <;> cases y <;> simp only [evEq, h1]
  have key2 : evEqs P op t cst x y h = evEqs P op t cst x y h' := by
    unfold evEqs
    rw [key]
  cases x <;> first
    | exact key2
    | rfl

theorem evConvQ_still {s d : TypeId} {jd kd : IntKind} (h1 : kindOf P s = some jd) (h2 : kindOf P d = some kd) (x : AV) (h h' : Tr Obj) : evConvQ P s d x h = evConvQ P s d x h' := by
  cases x with
  | int a u => rw [evConvQ_int h1 h2, evConvQ_int h1 h2]
  | _ => unfold evConvQ evConvert; simp only [kindOf_some h1, kindOf_some h2]

theorem coreW_ok (o : Oper) : CoreOk P o (coreW P o) := by
  unfold coreW
  split
  case h_1 x hop => exact .mv x (by rw [hop]; rfl) (by simp only [isEff, hop]) (by simp only [isAlloc, hop]) (by simp only [isDep, hop]) (fun a h => by simp only [qOf, evQ, hop]) fun ex cl a h nx => by simp only [evO, evS, evQ, hop]; rfl
  case h_2 x hop => exact .mv x (by rw [hop]; rfl) (by simp only [isEff, hop]) (by simp only [isAlloc, hop]) (by simp only [isDep, hop]) (fun a h => by simp only [qOf, evQ, hop]) fun ex cl a h nx => by simp only [evO, evS, evQ, hop]; rfl
  case h_3 t x hop =>
    have hS : ∀ xs h nx, evS P o xs h nx = Rs.pure h nx (evQ P o xs h) := fun xs h nx => by simp only [evS, hop]
    split
    · rename_i ht
      exact .ofC1 (cLoadA_ok ht) (by rw [hop]; rfl) (by simp only [isEff, hop]) (by simp only [isAlloc, hop]) (fun ex cl a h nx => evO_Q (by simp [hop]) hS ..) fun a h => by simp only [qOf, evQ, hop]
    · rename_i ht
      exact .ofC1 (cLoad_ok ht) (by rw [hop]; rfl) (by simp only [isEff, hop]) (by simp only [isAlloc, hop]) (fun ex cl a h nx => evO_Q (by simp [hop]) hS ..) fun a h => by simp only [qOf, evQ, hop]
    · exact .gen
  case h_4 t a v hop =>
    split
    · rename_i i ht
      exact .eff a v _ (by rw [hop]; rfl) (by simp only [isEff, hop]) fun ex cl a b h nx k => by
        have : evO P ex cl o [a, b] h nx = evStore P t a b h nx := by simp only [evO, evS, hop]
        rw [this]
        exact cStore_ok ht a b h nx k
    · exact .gen
  case h_5 t x f hop =>
    have hS : ∀ xs h nx, evS P o xs h nx = Rs.pure h nx (evQ P o xs h) := fun xs h nx => by simp only [evS, hop]
    split
    · rename_i fs h1
      split
      · rename_i fd h2
        split
        · rename_i i h3 h4
          exact .ofI1 (C1.still (cFieldAddr_ok h1 h2 h3 h4)) (by rw [hop]; rfl) (by simp only [isEff, hop]) (by simp only [isAlloc, hop]) (fun ex cl a h nx => evO_Q (by simp [hop]) hS ..) (fun a h => by simp only [qOf, evQ, hop]) fun _ _ _ => rfl
        · exact .gen
      · exact .gen
    · exact .gen
  case h_6 t x f hop =>
    have hS : ∀ xs h nx, evS P o xs h nx = Rs.pure h nx (evQ P o xs h) := fun xs h nx => by simp only [evS, hop]
    split
    · rename_i fs h1
      split
      · rename_i fd h2
        split
        · rename_i h3
          exact .ofI1 (C1.still (cFieldA_ok h1 h2 h3)) (by rw [hop]; rfl) (by simp only [isEff, hop]) (by simp only [isAlloc, hop]) (fun ex cl a h nx => evO_Q (by simp [hop]) hS ..) (fun a h => by simp only [qOf, evQ, hop]) fun _ _ _ => rfl
        · rename_i h3
          exact .ofI1 (C1.still (cField_ok h1 h2 h3)) (by rw [hop]; rfl) (by simp only [isEff, hop]) (by simp only [isAlloc, hop]) (fun ex cl a h nx => evO_Q (by simp [hop]) hS ..) (fun a h => by simp only [qOf, evQ, hop]) fun _ _ _ => rfl
        · exact .gen
      · exact .gen
    · exact .gen
  case h_7 x i hop =>
    have hS : ∀ xs h nx, evS P o xs h nx = Rs.pure h nx (evQ P o xs h) := fun xs h nx => by simp only [evS, hop]
    exact .ofI1 (C1.still cExtract_ok) (by rw [hop]; rfl) (by simp only [isEff, hop]) (by simp only [isAlloc, hop]) (fun ex cl a h nx => evO_Q (by simp [hop]) hS ..) (fun a h => by simp only [qOf, evQ, hop]) fun _ _ _ => rfl
  case h_8 x hop =>
    have hS : ∀ xs h nx, evS P o xs h nx = Rs.pure h nx (evQ P o xs h) := fun xs h nx => by simp only [evS, hop]
    exact .ofI1 (C1.still cNil_ok) (by rw [hop]; rfl) (by simp only [isEff, hop]) (by simp only [isAlloc, hop]) (fun ex cl a h nx => evO_Q (by simp [hop]) hS ..) (fun a h => by simp only [qOf, evQ, hop]) fun _ _ _ => rfl
  case h_9 t x i hop =>
    have hS : ∀ xs h nx, evS P o xs h nx = Rs.pure h nx (evQ P o xs h) := fun xs h nx => by simp only [evS, hop]
    split
    · rename_i len e h1
      split
      · rename_i j h2
        exact .ofI2 (C2.still (cIndexAddrA_ok h1 h2)) (by rw [hop]; rfl) (by simp only [isEff, hop]) (by simp only [isAlloc, hop]) (fun ex cl a b h nx => evO_Q (by simp [hop]) hS ..) (fun a b h => by simp only [qOf, evQ, hop]) fun _ _ _ _ => rfl
      · exact .gen
    · rename_i e h1
      split
      · rename_i j h2
        exact .ofI2 (C2.still (cIndexAddr_ok h1 h2)) (by rw [hop]; rfl) (by simp only [isEff, hop]) (by simp only [isAlloc, hop]) (fun ex cl a b h nx => evO_Q (by simp [hop]) hS ..) (fun a b h => by simp only [qOf, evQ, hop]) fun _ _ _ _ => rfl
      · exact .gen
    · exact .gen
  case h_10 t x i hop =>
    have hS : ∀ xs h nx, evS P o xs h nx = Rs.pure h nx (evQ P o xs h) := fun xs h nx => by simp only [evS, hop]
    split
    · rename_i h1
      exact .ofI2 (C2.still (cIndexS_ok h1)) (by rw [hop]; rfl) (by simp only [isEff, hop]) (by simp only [isAlloc, hop]) (fun ex cl a b h nx => evO_Q (by simp [hop]) hS ..) (fun a b h => by simp only [qOf, evQ, hop]) fun _ _ _ _ => rfl
    · exact .gen
  case h_11 op t x y yt hop =>
    have hS : ∀ xs h nx, evS P o xs h nx = Rs.pure h nx (evQ P o xs h) := fun xs h nx => by simp only [evS, hop]
    split
    · rename_i kd ht
      split
      · rename_i c hc
        exact .ofI2 (intOp_ok (P := P) hc t (cstOf x y)) (by rw [hop]; rfl) (by simp only [isEff, hop]) (by simp only [isAlloc, hop]) (fun ex cl a b h nx => evO_Q (by simp [hop]) hS ..) (fun a b h => by simp only [qOf, evQ, hop]) (evBin_still (.inl ⟨_, ht⟩))
      · exact .gen
    · rename_i ht
      exact .ofI2 (cStr_ok (P := P) (op := op) (t := t) (cst := cstOf x y)) (by rw [hop]; rfl) (by simp only [isEff, hop]) (by simp only [isAlloc, hop]) (fun ex cl a b h nx => evO_Q (by simp [hop]) hS ..) (fun a b h => by simp only [qOf, evQ, hop]) (evBin_still (.inr ht))
    · exact .gen
  case h_12 op t x hop =>
    have hS : ∀ xs h nx, evS P o xs h nx = Rs.pure h nx (evQ P o xs h) := fun xs h nx => by simp only [evS, hop]
    split
    · exact .ofI1 (C1.still cNot_ok) (by rw [hop]; rfl) (by simp only [isEff, hop]) (by simp only [isAlloc, hop]) (fun ex cl a h nx => evO_Q (by simp [hop]) hS ..) (fun a h => by simp only [qOf, evQ, hop]) fun _ _ _ => rfl
    · exact .gen
  case h_13 s d x hop =>
    split
    · rename_i jd kd h1 h2
      have hev : ∀ ex cl a h nx, evO P ex cl o [a] h nx = Rs.pure h nx (qOf P o [a] h) := fun ex cl a h nx => by
        have e1 : evO P ex cl o [a] h nx = evConvert P s d a h nx := by simp only [evO, evS, hop]
        have e2 : qOf P o [a] h = evConvQ P s d a h := by simp only [qOf, evQ, hop]
        rw [e1, e2, evConvQ_pure h1 h2]
      split
      · rename_i h3
        exact .ofI1 (cConv_ok h1 h2 h3) (by rw [hop]; rfl) (by simp only [isEff, hop]) (by simp only [isAlloc, hop]) hev (fun a h => by simp only [qOf, evQ, hop]) (evConvQ_still h1 h2)
      · rename_i h3
        exact .ofI1 (cConvW_ok h1 h2 h3) (by rw [hop]; rfl) (by simp only [isEff, hop]) (by simp only [isAlloc, hop]) hev (fun a h => by simp only [qOf, evQ, hop]) (evConvQ_still h1 h2)
    · exact .gen
  case h_14 c hop =>
    split
    · rename_i f hc
      split
      · rename_i hf
        obtain ⟨fn, b, f1, f2, f3⟩ := callable_ok hf
        exact .call f _ (by simp only [isEff, hop, hc]) (by rw [hop]; simp [Op.operands, Call.operands, hc]) fun ex cl xs h nx => by simp only [evO, evCl, hop, hc, f1, f2, f3, List.nil_append, List.append_nil]
      · exact .gen
    · rename_i hc
      split
      · rename_i t x ht hx
        have hev : ∀ ex cl a h nx, evO P ex cl o [a] h nx = Rs.pure h nx (qOf P o [a] h) := fun ex cl a h nx => by simp only [evO, evCl, qOf, hop, hc]
        have hq : ∀ a h, qOf P o [a] h = evLenS P t a h := fun a h => by simp only [qOf, evClQ, hop, hc, ht]
        have hops : o.op.operands.toList = [x] := by rw [hop]; simp only [Op.operands, Call.operands, hc]; simpa using hx
        split
        · rename_i h1
          exact .ofI1 (C1.lens (.inr h1) (cLenS_ok h1)) hops (by simp only [isEff, hop, hc]) (by simp only [isAlloc, hop]) hev hq (evLenS_still (.inr h1))
        · rename_i e h1
          exact .ofI1 (C1.lens (.inl ⟨e, h1⟩) (cLen_ok h1)) hops (by simp only [isEff, hop, hc]) (by simp only [isAlloc, hop]) hev hq (evLenS_still (.inl ⟨e, h1⟩))
        · exact .gen
      · exact .gen
    · exact .gen
  case h_15 => exact .gen

end
end Go.Ev
