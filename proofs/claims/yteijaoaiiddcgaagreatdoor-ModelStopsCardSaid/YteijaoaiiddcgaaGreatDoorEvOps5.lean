/- Parts of slices, of texts and of arrays. -/
import Derived.Test.YteijaoaiiddcgaaGreatDoorEvOps4
namespace Go.Ev
open Go

noncomputable section
section
variable {σ : Nat → Value} {P : Program} {gv : Nat → Option Pos} {c : Cx} {h : Tr Obj} {nx : Pos} {w : World}

/-- A bound: what is given, if it is not too great; if none is, the one that stands for it. -/
def bnd (o : Option AV) (d lim : Nat) : Option Nat :=
  match o with
  | none => some d
  | some v => match idxN v with
    | some n => match Nat.ble n lim with
      | true => some n
      | false => none
    | none => none

theorem run_sliceBound {v : AV} {n y : Nat} (h1 : idxN v = some n) (h2 : n ≤ y) (code : BoundsCode) (w : World) : (Instr.sliceBound (v.conc σ c) y code).run P w = .ok n w := by
  obtain ⟨k, hk⟩ := idxN_ok h1 σ c
  have : (0 : Int) ≤ (n : Int) ∧ (n : Int) ≤ (y : Int) := ⟨by omega, by omega⟩
  simp only [Instr.sliceBound, hk, asIntOf, Sem.run_bind, Sem.run_pure, Result.andThen_ok, if_pos this, Int.toNat_natCast]

theorem bnd_some {v : AV} {d lim n : Nat} (h : bnd (some v) d lim = some n) : idxN v = some n ∧ n ≤ lim := by
  unfold bnd at h
  simp only at h
  cases e : idxN v with
  | none => rw [e] at h; cases h
  | some m =>
    rw [e] at h
    simp only at h
    cases e2 : Nat.ble m lim with
    | false => rw [e2] at h; cases h
    | true => rw [e2] at h; cases h; exact ⟨rfl, Nat.le_of_ble_eq_true e2⟩

theorem run_sliceBounds (isSlice : Bool) (len cap : Nat) (lo hi mx : Option AV) (l hh m : Nat) (hm : bnd mx cap cap = some m) (h1 : hi = none → mx = none) (h2 : bnd hi len m = some hh) (h3 : bnd lo 0 hh = some l) (w : World) :
    (Instr.sliceBounds isSlice len cap (lo.map (AV.conc σ c)) (hi.map (AV.conc σ c)) (mx.map (AV.conc σ c))).run P w = .ok (l, hh, m) w := by
  unfold Instr.sliceBounds
  cases mx with
  | none =>
    cases hm
    cases hi with
    | none =>
      cases h2
      cases lo with
      | none => cases h3; rfl
      | some v =>
        obtain ⟨g1, g2⟩ := bnd_some h3
        simp only [Option.map_none, Option.map_some, Sem.run_bind, Sem.run_pure, Result.andThen_ok, run_sliceBound g1 g2]
    | some u =>
      obtain ⟨e1, e2⟩ := bnd_some h2
      cases lo with
      | none =>
        cases h3
        simp only [Option.map_none, Option.map_some, Sem.run_bind, Sem.run_pure, Result.andThen_ok, run_sliceBound e1 e2]
      | some v =>
        obtain ⟨g1, g2⟩ := bnd_some h3
        simp only [Option.map_none, Option.map_some, Sem.run_bind, Sem.run_pure, Result.andThen_ok, run_sliceBound e1 e2, run_sliceBound g1 g2]
  | some q =>
    obtain ⟨d1, d2⟩ := bnd_some hm
    cases hi with
    | none => cases h1 rfl
    | some u =>
      obtain ⟨e1, e2⟩ := bnd_some h2
      cases lo with
      | none =>
        cases h3
        simp only [Option.map_none, Option.map_some, Sem.run_bind, Sem.run_pure, Result.andThen_ok, run_sliceBound d1 d2, run_sliceBound e1 e2]
      | some v =>
        obtain ⟨g1, g2⟩ := bnd_some h3
        simp only [Option.map_some, Sem.run_bind, Sem.run_pure, Result.andThen_ok, run_sliceBound d1 d2, run_sliceBound e1 e2, run_sliceBound g1 g2]

/-- The three bounds. -/
def bnds (lo hi mx : Option AV) (len cap : Nat) : Option (Nat × Nat × Nat) :=
  match hi, mx with
  | none, some _ => none
  | _, _ => match bnd mx cap cap with
    | some m => match bnd hi len m with
      | some hh => match bnd lo 0 hh with
        | some l => some (l, hh, m)
        | none => none
      | none => none
    | none => none

theorem bnds_ok {lo hi mx : Option AV} {len cap : Nat} {x : Nat × Nat × Nat} (h : bnds lo hi mx len cap = some x) (isSlice : Bool) (w : World) :
    (Instr.sliceBounds isSlice len cap (lo.map (AV.conc σ c)) (hi.map (AV.conc σ c)) (mx.map (AV.conc σ c))).run P w = .ok x w := by
  unfold bnds at h
  split at h
  · cases h
  · rename_i hn
    cases e1 : bnd mx cap cap with
    | none => rw [e1] at h; cases h
    | some m =>
      rw [e1] at h; simp only at h
      cases e2 : bnd hi len m with
      | none => rw [e2] at h; cases h
      | some hh =>
        rw [e2] at h; simp only at h
        cases e3 : bnd lo 0 hh with
        | none => rw [e3] at h; cases h
        | some l =>
          rw [e3] at h; cases h
          refine run_sliceBounds isSlice len cap lo hi mx l hh m e1 (fun hi0 => ?_) e2 e3 w
          cases mx with
          | none => rfl
          | some q => exact absurd rfl (hn q hi0)

/-- What is known of an open slice: that its cells are there. -/
def openOk (P : Program) (h : Tr Obj) (e : TypeId) (b : Pos) (off len cut : Nat) : Bool :=
  match h.get b with
  | some (.row el r true _ _) => match P.info? e, Nat.beq el e, Nat.beq (P.cellsOf e) 0 with
    | some _, true, false => Nat.beq off (Nat.mul cut (P.cellsOf e)) && Nat.ble (Nat.mul (Nat.add cut len) (P.cellsOf e)) r.toList.length
    | _, _, _ => false
  | _ => false

theorem openOk_ok (R : Rel σ P gv c h nx w) {e : TypeId} {b : Pos} {off len cut : Nat} (hb : c.L b) (ho : openOk P h e b off len cut = true) :
    (∃ i, P.info? e = some i) ∧ cut + len ≤ c.κ b ∧ off = cut * P.cellsOf e ∧ P.cellsOf e ≠ 0 := by
  unfold openOk at ho
  split at ho
  · rename_i el r frz plain hg
    split at ho
    · rename_i i hi hel hz
      have hel := Nat.eq_of_beq_eq_true hel
      have hz := Nat.ne_of_beq_eq_false hz
      simp only [Bool.and_eq_true] at ho
      have h1 := Nat.eq_of_beq_eq_true ho.1
      have h2 : (cut + len) * P.cellsOf e ≤ r.toList.length := Nat.le_of_ble_eq_true ho.2
      obtain ⟨rest, fz, g1, g2, g3, g4, g5⟩ := R.obj b _ hb hg
      have g5 := g5 rfl
      rw [hel] at g5
      refine ⟨⟨i, hi⟩, ?_, h1, hz⟩
      have : (cut + len) * P.cellsOf e ≤ c.κ b * P.cellsOf e := by omega
      exact Nat.le_of_mul_le_mul_right this (Nat.pos_of_ne_zero hz)
    · cases ho
  · cases ho

def evSlice (P : Program) (t : TypeId) (x : AV) (lo hi mx : Option AV) (h : Tr Obj) : Option AV :=
  match P.underlying t with
  | some .string => match x, mx with
    | .str n d, none => match bnds lo hi none n n with
      | some (l, hh, _) => some (.str (Nat.sub hh l) (Nat.shiftRight d (Nat.mul 8 l)))
      | none => none
    | _, _ => none
  | some (.array n e) => match x, P.info? e with
    | .ptr b off, some _ => match bnds lo hi mx n n with
      | some (l, hh, m) => some (.slice b (match Nat.beq m l with | true => off | false => Nat.add off (Nat.mul l (P.cellsOf e))) (Nat.sub hh l) (Nat.sub m l))
      | none => none
    | _, _ => none
  | some (.slice e) => match x with
    | .nils => match P.info? e, bnds lo hi mx 0 0 with
      | some _, some (0, 0, 0) => some .nils
      | _, _ => none
    | .slice b off len cap => match P.info? e, bnds lo hi mx len cap with
      | some _, some (l, hh, m) => some (.slice b (match Nat.beq m l with | true => off | false => Nat.add off (Nat.mul l (P.cellsOf e))) (Nat.sub hh l) (Nat.sub m l))
      | _, _ => none
    | .sliceU b off len cut => match openOk P h e b off len cut with
      | true => match mx with
        | some q => match bnds lo hi (some q) len len with
          | some (l, hh, m) => some (.slice b (match Nat.beq m l with | true => off | false => Nat.add off (Nat.mul l (P.cellsOf e))) (Nat.sub hh l) (Nat.sub m l))
          | none => none
        | none => match bnds lo hi none len len with
          | some (0, hh, _) => some (.sliceU b off hh cut)
          | some (l, hh, _) => match Nat.blt l len with
            | true => some (.sliceU b (Nat.add off (Nat.mul l (P.cellsOf e))) (Nat.sub hh l) (Nat.add cut l))
            | false => some (.sliceZ b off (Nat.mul l (P.cellsOf e)) (Nat.add cut l) true)
          | none => none
      | false => none
    | .sliceZ b off step cut op => match P.info? e with
      | some _ => match mx with
        | some q => match bnds lo hi (some q) 0 0 with
          | some (0, 0, 0) => some (.sliceZ b off step cut false)
          | _ => none
        | none => match bnds lo hi none 0 0 with
          | some (0, 0, _) => some (.sliceZ b off step cut op)
          | _ => none
      | none => none
    | _ => none
  | _ => none

/-- Bounds under a greater capacity. -/
theorem bnds_le_some {lo hi : Option AV} {q : AV} {len cap cap' : Nat} {x : Nat × Nat × Nat} (h : bnds lo hi (some q) len cap = some x) (hc : cap ≤ cap') : bnds lo hi (some q) len cap' = some x := by
  cases hi with
  | none => cases h
  | some u =>
    simp only [bnds] at h ⊢
    cases e1 : bnd (some q) cap cap with
    | none => rw [e1] at h; cases h
    | some m =>
      obtain ⟨h1, h2⟩ := bnd_some e1
      have e2 : bnd (some q) cap' cap' = some m := by
        unfold bnd; simp only [h1, Nat.ble_eq_true_of_le (Nat.le_trans h2 hc)]
      rw [e1] at h
      rw [e2]
      exact h

theorem bnds_le_none {lo hi : Option AV} {len cap cap' l hh m : Nat} (h : bnds lo hi none len cap = some (l, hh, m)) (hc : cap ≤ cap') : bnds lo hi none len cap' = some (l, hh, cap') ∧ hh ≤ max len cap ∧ l ≤ hh := by
  unfold bnds at h ⊢
  have e0 : ∀ d, bnd (none : Option AV) d d = some d := fun _ => rfl
  have hm : (match hi, (none : Option AV) with | none, some _ => none | _, _ => match bnd (none : Option AV) cap cap with
    | some m => match bnd hi len m with
      | some hh => match bnd lo 0 hh with
        | some l => some (l, hh, m)
        | none => none
      | none => none
    | none => none) = (match bnd hi len cap with
      | some hh => match bnd lo 0 hh with
        | some l => some (l, hh, cap)
        | none => none
      | none => none) := by cases hi <;> rfl
  have hm' : (match hi, (none : Option AV) with | none, some _ => none | _, _ => match bnd (none : Option AV) cap' cap' with
    | some m => match bnd hi len m with
      | some hh => match bnd lo 0 hh with
        | some l => some (l, hh, m)
        | none => none
      | none => none
    | none => none) = (match bnd hi len cap' with
      | some hh => match bnd lo 0 hh with
        | some l => some (l, hh, cap')
        | none => none
      | none => none) := by cases hi <;> rfl
  rw [hm] at h
  rw [hm']
  cases e2 : bnd hi len cap with
  | none => rw [e2] at h; cases h
  | some h2 =>
    rw [e2] at h; simp only at h
    have e3 : bnd hi len cap' = some h2 ∧ h2 ≤ max len cap := by
      cases hi with
      | none => cases e2; exact ⟨rfl, by omega⟩
      | some u =>
        obtain ⟨g1, g2⟩ := bnd_some e2
        exact ⟨by unfold bnd; simp only [g1, Nat.ble_eq_true_of_le (Nat.le_trans g2 hc)], by omega⟩
    cases e4 : bnd lo 0 h2 with
    | none => rw [e4] at h; cases h
    | some l2 =>
      rw [e4] at h; cases h
      rw [e3.1]; simp only [e4]
      refine ⟨trivial, e3.2, ?_⟩
      cases lo with
      | none => cases e4; omega
      | some v => exact (bnd_some e4).2

theorem evSlice_ok (t : TypeId) (x : AV) (lo hi mx : Option AV) (hx : x.all c.L) :
    OpPure σ P gv (Instr.sliceAt t (x.conc σ c) (lo.map (AV.conc σ c)) (hi.map (AV.conc σ c)) (mx.map (AV.conc σ c))) c h nx w (evSlice P t x lo hi mx h) := by
  unfold evSlice
  cases hu : P.underlying t with
  | none => trivial
  | some d =>
    cases d <;> simp only <;> try trivial
    case string =>
      cases x <;> try trivial
      case str n d =>
        cases mx with
        | some q => trivial
        | none =>
          simp only
          cases e : bnds lo hi none n n with
          | none => trivial
          | some q =>
            obtain ⟨l, hh, m⟩ := q
            intro R
            refine ⟨?_, trivial⟩
            have hb := bnds_ok (σ := σ) (c := c) (P := P) e false w
            obtain ⟨_, hle, hll⟩ := bnds_le_none e (Nat.le_refl n)
            simp only [Option.map_none] at hb
            simp only [Instr.sliceAt, Instr.slice, Sem.run_bind, run_underlying hu, Result.andThen_ok, AV.conc, Option.map_none, Option.isSome_none, Bool.false_eq_true, if_false, Sem.run_pure, textOf_size, hb]
            congr 2
            unfold textOf
            rw [ByteArray.extract_mk, bytesOf_sub _ _ _ _ (by omega)]
            rfl
    case array n e =>
      cases x <;> try trivial
      case ptr b off =>
        cases hi2 : P.info? e with
        | none => trivial
        | some i =>
          simp only
          cases e1 : bnds lo hi mx n n with
          | none => trivial
          | some q =>
            obtain ⟨l, hh, m⟩ := q
            intro R
            refine ⟨?_, hx⟩
            have hb := bnds_ok (σ := σ) (c := c) (P := P) e1 false w
            simp only [Instr.sliceAt, Sem.run_bind, run_underlying hu, Result.andThen_ok, AV.conc, Instr.sureAddr, Sem.run_pure, hb, run_sizeOf _ hi2, addr_add]
            cases e2 : Nat.beq m l with
            | true => rw [if_pos (Nat.eq_of_beq_eq_true e2)]; rfl
            | false => rw [if_neg (Nat.ne_of_beq_eq_false e2)]; rfl
    case slice e =>
      cases x <;> try trivial
      case nils =>
        simp only
        split
        · rename_i i hi2 e1
          intro R
          refine ⟨?_, trivial⟩
          have hb := bnds_ok (σ := σ) (c := c) (P := P) e1 true w
          simp only [Instr.sliceAt, Instr.slice, Sem.run_bind, run_underlying hu, Result.andThen_ok, AV.conc, hb, run_sizeOf _ hi2, Sem.run_pure, if_true, Nat.sub_self]
        · trivial
      case slice b off len cap =>
        simp only
        split
        · rename_i i l hh m hi2 e1
          intro R
          refine ⟨?_, hx⟩
          have hb := bnds_ok (σ := σ) (c := c) (P := P) e1 true w
          simp only [Instr.sliceAt, Instr.slice, Sem.run_bind, run_underlying hu, Result.andThen_ok, AV.conc, hb, run_sizeOf _ hi2, Sem.run_pure, Option.map_some, addr_add]
          cases e2 : Nat.beq m l with
          | true => rw [if_pos (Nat.eq_of_beq_eq_true e2)]; rfl
          | false => rw [if_neg (Nat.ne_of_beq_eq_false e2)]; rfl
        · trivial
      case sliceU b off len cut =>
        simp only
        cases hop : openOk P h e b off len cut with
        | false => trivial
        | true =>
          simp only
          cases mx with
          | some q =>
            simp only
            cases e1 : bnds lo hi (some q) len len with
            | none => trivial
            | some x =>
              obtain ⟨l, hh, m⟩ := x
              intro R
              obtain ⟨⟨i, hi2⟩, hk, ho, hz⟩ := openOk_ok R hx hop
              refine ⟨?_, hx⟩
              have hb := bnds_ok (σ := σ) (c := c) (P := P) (bnds_le_some e1 (show len ≤ c.κ b - cut by omega)) true w
              simp only [Instr.sliceAt, Instr.slice, Sem.run_bind, run_underlying hu, Result.andThen_ok, AV.conc, hb, run_sizeOf _ hi2, Sem.run_pure, Option.map_some, addr_add]
              simp only [Option.map_some] at hb
              simp only [hb, Result.andThen_ok, run_sizeOf _ hi2, Sem.run_pure]
              cases e2 : Nat.beq m l with
              | true => rw [if_pos (Nat.eq_of_beq_eq_true e2)]; rfl
              | false => rw [if_neg (Nat.ne_of_beq_eq_false e2)]; rfl
          | none =>
            simp only
            cases e1 : bnds lo hi none len len with
            | none => trivial
            | some x =>
              obtain ⟨l, hh, m⟩ := x
              have key : Rel σ P gv c h nx w → (Instr.sliceAt t (AV.conc σ c (.sliceU b off len cut)) (lo.map (AV.conc σ c)) (hi.map (AV.conc σ c)) none).run P w =
                  .ok (.slice (some (if c.κ b - cut = l then ⟨c.ρ b, off, none⟩ else ⟨c.ρ b, off + l * P.cellsOf e, none⟩)) (hh - l) (c.κ b - cut - l)) w ∧ cut + len ≤ c.κ b ∧ hh ≤ len ∧ l ≤ hh := by
                intro R
                obtain ⟨⟨i, hi2⟩, hk, ho, hz⟩ := openOk_ok R hx hop
                obtain ⟨e3, e4, e5⟩ := bnds_le_none e1 (show len ≤ c.κ b - cut by omega)
                have hb := bnds_ok (σ := σ) (c := c) (P := P) e3 true w
                simp only [Option.map_none] at hb
                refine ⟨?_, hk, by omega, e5⟩
                simp only [Instr.sliceAt, Instr.slice, Sem.run_bind, run_underlying hu, Result.andThen_ok, AV.conc, hb, run_sizeOf _ hi2, Sem.run_pure, Option.map_some, addr_add]
                congr 2
                split <;> rfl
              cases l with
              | zero =>
                intro R
                obtain ⟨k1, k2, k3, k4⟩ := key R
                refine ⟨?_, hx⟩
                rw [Option.map_none, k1]
                simp [AV.conc]
              | succ l =>
                simp only
                cases hlt : Nat.blt (l + 1) len with
                | true =>
                  rw [Nat.blt_eq] at hlt
                  intro R
                  obtain ⟨k1, k2, k3, k4⟩ := key R
                  refine ⟨?_, hx⟩
                  rw [Option.map_none, k1, if_neg (by omega)]
                  simp only [AV.conc]
                  rw [Nat.sub_sub]; rfl
                | false =>
                  have hge : ¬ (l + 1 < len) := fun hh => by rw [← Nat.blt_eq] at hh; rw [hh] at hlt; cases hlt
                  intro R
                  obtain ⟨k1, k2, k3, k4⟩ := key R
                  refine ⟨?_, hx⟩
                  rw [Option.map_none, k1]
                  simp only [AV.conc, if_true]
                  have e6 : hh - (l + 1) = 0 := by omega
                  have e7 : c.κ b - cut - (l + 1) = c.κ b - Nat.add cut (l + 1) := by rw [Nat.sub_sub]; rfl
                  rw [e6, e7]
                  congr 2
                  by_cases h9 : c.κ b - cut = l + 1
                  · have : c.κ b = Nat.add cut (l + 1) := by show c.κ b = cut + (l + 1); omega
                    rw [if_pos h9, if_pos this]
                  · have : ¬ c.κ b = Nat.add cut (l + 1) := by show ¬ c.κ b = cut + (l + 1); omega
                    rw [if_neg h9, if_neg this]; rfl
      case sliceZ b off step cut op =>
        simp only
        cases hi2 : P.info? e with
        | none => trivial
        | some i =>
          simp only
          cases mx with
          | some q =>
            simp only
            split
            · rename_i e1
              intro R
              refine ⟨?_, hx⟩
              have hb := bnds_ok (σ := σ) (c := c) (P := P) (bnds_le_some e1 (Nat.zero_le (if op then c.κ b - cut else 0))) true w
              simp only [Option.map_some] at hb
              simp only [Instr.sliceAt, Instr.slice, Sem.run_bind, run_underlying hu, Result.andThen_ok, AV.conc, Option.map_some, hb, run_sizeOf _ hi2, Sem.run_pure, if_true, Nat.sub_self]
              simp
            · trivial
          | none =>
            simp only
            split
            · rename_i m e1
              intro R
              refine ⟨?_, hx⟩
              obtain ⟨e3, e4, e5⟩ := bnds_le_none e1 (Nat.zero_le (if op then c.κ b - cut else 0))
              have hb := bnds_ok (σ := σ) (c := c) (P := P) e3 true w
              simp only [Option.map_none] at hb
              simp only [Instr.sliceAt, Instr.slice, Sem.run_bind, run_underlying hu, Result.andThen_ok, AV.conc, Option.map_none, hb, run_sizeOf _ hi2, Sem.run_pure, Option.map_some, addr_add]
              simp
            · trivial

end
end
end Go.Ev
