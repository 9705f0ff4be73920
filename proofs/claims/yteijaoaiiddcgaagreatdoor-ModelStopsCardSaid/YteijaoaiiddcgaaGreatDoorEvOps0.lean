/- Single operations of the deterministic machine, and that the model does the same: numbers, texts, tests. -/
import Derived.Test.YteijaoaiiddcgaaGreatDoorEvPrim0
import GoSem.Dispatch
namespace Go.Ev
open Go

/-- What an operation comes to. -/
inductive Rs where
  | fail
  | val (v : AV) (h : Tr Obj) (nx : Pos)

/-- What an operation comes to that leaves memory alone. -/
def OpPure (σ : Nat → Value) (P : Program) (gv : Nat → Option Pos) (s : Sem Value) (c : Cx) (h : Tr Obj) (nx : Pos) (w : World) : Option AV → Prop
  | none => True
  | some v => Rel σ P gv c h nx w → s.run P w = .ok (v.conc σ c) w ∧ v.all c.L

def OpOk (σ : Nat → Value) (P : Program) (gv : Nat → Option Pos) (s : Sem Value) (c : Cx) (h : Tr Obj) (nx : Pos) (w : World) : Rs → Prop
  | .fail => True
  | .val v h' nx' => ∃ c' w', s.run P w = .ok (v.conc σ c') w' ∧ Rel σ P gv c' h' nx' w' ∧ Ext c h nx w c' h' nx' w' ∧ v.all c'.L

def Rs.pure (h : Tr Obj) (nx : Pos) : Option AV → Rs
  | none => .fail
  | some v => .val v h nx

theorem OpOk.of_pure {σ : Nat → Value} {P : Program} {gv : Nat → Option Pos} {s : Sem Value} {c : Cx} {h : Tr Obj} {nx : Pos} {w : World} {o : Option AV}
    (R : Rel σ P gv c h nx w) (hp : OpPure σ P gv s c h nx w o) : OpOk σ P gv s c h nx w (Rs.pure h nx o) := by
  cases o with
  | none => trivial
  | some v => obtain ⟨h1, h2⟩ := hp R; exact ⟨c, w, h1, R, Ext.refl .., h2⟩

/- Numbers: two's complement. -/
def md (k : IntKind) : Nat := 2 ^ k.bits
def half (k : IntKind) : Nat := 2 ^ (k.bits - 1)

theorem wrap_md (k : IntKind) (n : Int) : k.wrap n = k.wrap (n % (md k : Int)) := by
  unfold IntKind.wrap md
  simp

theorem wrap_congr (k : IntKind) {m n : Int} (h : m % (md k : Int) = n % (md k : Int)) : k.wrap m = k.wrap n := by
  rw [wrap_md k m, wrap_md k n, h]

theorem wrap_emod (k : IntKind) (n : Int) : k.wrap n % (md k : Int) = n % (md k : Int) := by
  unfold IntKind.wrap md
  simp only []
  split
  · rw [Int.sub_emod]; simp
  · simp

theorem wrap_cast_mod (k : IntKind) (n : Nat) : k.wrap ((n % md k : Nat) : Int) = k.wrap n := by
  apply wrap_congr; simp

theorem wrap_add (k : IntKind) (a b : Int) : k.wrap (k.wrap a + k.wrap b) = k.wrap (a + b) := by
  apply wrap_congr; rw [Int.add_emod, wrap_emod, wrap_emod, ← Int.add_emod]

theorem wrap_mul (k : IntKind) (a b : Int) : k.wrap (k.wrap a * k.wrap b) = k.wrap (a * b) := by
  apply wrap_congr; rw [Int.mul_emod, wrap_emod, wrap_emod, ← Int.mul_emod]

theorem wrap_sub (k : IntKind) (a b : Int) : k.wrap (k.wrap a - k.wrap b) = k.wrap (a - b) := by
  apply wrap_congr; rw [Int.sub_emod, wrap_emod, wrap_emod, ← Int.sub_emod]

theorem wrap_wrap (k j : IntKind) (h : md k ∣ md j) (n : Int) : k.wrap (j.wrap n) = k.wrap n := by
  apply wrap_congr
  have hd : (md k : Int) ∣ (md j : Int) := by exact_mod_cast h
  rw [← Int.emod_emod_of_dvd (j.wrap n) hd, wrap_emod, Int.emod_emod_of_dvd n hd]

theorem md_pos (k : IntKind) : 0 < md k := Nat.pow_pos (by decide)

def subN (k : IntKind) (u v : Nat) : Nat := Nat.mod (Nat.sub (Nat.add u (md k)) (Nat.mod v (md k))) (md k)

theorem subN_eq (k : IntKind) (u v : Nat) : k.wrap (k.wrap u - k.wrap v) = k.wrap (subN k u v) := by
  rw [wrap_sub]
  show _ = k.wrap (((u + md k - v % md k) % md k : Nat) : Int)
  rw [wrap_cast_mod]
  apply wrap_congr
  have h1 : v % md k < md k := Nat.mod_lt _ (md_pos k)
  have h2 : ((u + md k - v % md k : Nat) : Int) = (u : Int) - (v % md k : Nat) + (md k : Int) := by omega
  rw [h2, Int.add_emod_right]
  rw [Int.sub_emod, Int.sub_emod (u : Int)]
  simp

/-- The number that stands for a signed one in the order of numbers: 2^(bits-1) is put on. -/
def ordN (k : IntKind) (u : Nat) : Nat := match k.signed with
  | true => Nat.mod (Nat.add u (half k)) (md k)
  | false => Nat.mod u (md k)

theorem md_half (k : IntKind) : md k = 2 * half k := by cases k <;> rfl

theorem ordN_eq (k : IntKind) (u : Nat) : (ordN k u : Int) = k.wrap u + (if k.signed then (half k : Int) else 0) := by
  have e := md_half k
  have hp : 0 < half k := by cases k <;> decide
  have hb : (2 ^ k.bits : Int) = (md k : Int) := by unfold md; simp
  have hb2 : (2 ^ (k.bits - 1) : Int) = (half k : Int) := by unfold half; simp
  unfold ordN IntKind.wrap
  rw [hb, hb2]
  cases hs : k.signed with
  | false => simp; show ((u % md k : Nat) : Int) = _; simp
  | true =>
    show (((u + half k) % md k : Nat) : Int) = _
    simp only [Bool.true_and, decide_eq_true_eq, if_true]
    have h1 : ((u % md k : Nat) : Int) = (u : Int) % (md k : Int) := by simp
    rw [← h1]
    have h2 : (u + half k) % md k = (u % md k + half k) % md k := by simp [Nat.add_mod]
    have h3 : u % md k < md k := Nat.mod_lt _ (by omega)
    generalize u % md k = m at *
    rw [h2]
    split
    · rename_i h4
      have h5 : (m + half k) % md k = m + half k - md k := by
        rw [Nat.mod_eq_sub_mod (by omega), Nat.mod_eq_of_lt (by omega)]
      rw [h5]; omega
    · rename_i h4
      rw [Nat.mod_eq_of_lt (by omega)]; omega

theorem ordN_lt (k : IntKind) (u v : Nat) : (k.wrap u < k.wrap v) ↔ ordN k u < ordN k v := by
  have h1 := ordN_eq k u; have h2 := ordN_eq k v; omega
theorem ordN_le (k : IntKind) (u v : Nat) : (k.wrap u ≤ k.wrap v) ↔ ordN k u ≤ ordN k v := by
  have h1 := ordN_eq k u; have h2 := ordN_eq k v; omega
theorem ordN_inj (k : IntKind) (u v : Nat) : (k.wrap u = k.wrap v) ↔ ordN k u = ordN k v := by
  have h1 := ordN_eq k u; have h2 := ordN_eq k v; omega

/-- Where a number is not below 0, itself. -/
theorem wrap_small (k : IntKind) (u : Nat) (h : u < half k) : k.wrap (u : Int) = u := by
  have e := md_half k
  have hb : (2 ^ k.bits : Int) = (md k : Int) := by unfold md; simp
  have hb2 : (2 ^ (k.bits - 1) : Int) = (half k : Int) := by unfold half; simp
  unfold IntKind.wrap
  rw [hb, hb2]
  have h1 : (u : Int) % (md k : Int) = u := by rw [← Int.natCast_emod, Nat.mod_eq_of_lt (by omega)]
  simp only [h1]
  split
  · rename_i h2
    simp only [Bool.and_eq_true, decide_eq_true_eq] at h2
    omega
  · rfl
theorem wrap_unsigned (k : IntKind) (u : Nat) (hs : k.signed = false) (h : u < md k) : k.wrap (u : Int) = u := by
  have hb : (2 ^ k.bits : Int) = (md k : Int) := by unfold md; simp
  unfold IntKind.wrap
  rw [hb, hs]
  have h1 : (u : Int) % (md k : Int) = u := by rw [← Int.natCast_emod, Nat.mod_eq_of_lt (by omega)]
  simp [h1]

/-- A number whose value is itself. -/
def natN (k : IntKind) (u : Nat) : Bool := match k.signed with
  | true => Nat.blt u (half k)
  | false => Nat.blt u (md k)

theorem natN_eq {k : IntKind} {u : Nat} (h : natN k u = true) : k.wrap (u : Int) = u := by
  unfold natN at h
  cases hs : k.signed with
  | true => rw [hs] at h; exact wrap_small k u (by simpa [Nat.blt_eq] using h)
  | false => rw [hs] at h; exact wrap_unsigned k u hs (by simpa [Nat.blt_eq] using h)

def binInt (op : BinOp) (k : IntKind) (u v : Nat) : Option AV :=
  match op with
  | .add => some (.int k (Nat.mod (Nat.add u v) (md k)))
  | .sub => some (.int k (subN k u v))
  | .mul => some (.int k (Nat.mod (Nat.mul u v) (md k)))
  | .eql => some (.bool (Nat.beq (ordN k u) (ordN k v)))
  | .neq => some (.bool (!Nat.beq (ordN k u) (ordN k v)))
  | .lss => some (.bool (Nat.blt (ordN k u) (ordN k v)))
  | .leq => some (.bool (Nat.ble (ordN k u) (ordN k v)))
  | .gtr => some (.bool (Nat.blt (ordN k v) (ordN k u)))
  | .geq => some (.bool (Nat.ble (ordN k v) (ordN k u)))
  | .quo => match natN k u && natN k v && !Nat.beq v 0 with
    | true => some (.int k (Nat.div u v))
    | false => none
  | .rem => match natN k u && natN k v && !Nat.beq v 0 with
    | true => some (.int k (Nat.mod u v))
    | false => none
  | .and => some (.int k (Nat.land (Nat.mod u (md k)) (Nat.mod v (md k))))
  | .or => some (.int k (Nat.lor (Nat.mod u (md k)) (Nat.mod v (md k))))
  | .xor => some (.int k (Nat.xor (Nat.mod u (md k)) (Nat.mod v (md k))))
  | _ => none

def shInt (op : BinOp) (k : IntKind) (u : Nat) (yk : IntKind) (v : Nat) : Option AV :=
  match op with
  | .shl => match natN yk v with
    | true => some (.int k (Nat.mod (Nat.shiftLeft u (Nat.min v k.bits)) (md k)))
    | false => none
  | .shr => match natN yk v, natN k u with
    | true, true => some (.int k (Nat.shiftRight u (Nat.min v k.bits)))
    | true, false => match k.signed && Nat.ble (half k) (Nat.mod u (md k)) with
      | true => some (.int k (Nat.sub (md k) (Nat.add 1 (Nat.shiftRight (Nat.sub (md k) (Nat.add 1 (Nat.mod u (md k)))) (Nat.min v k.bits)))))
      | false => none
    | _, _ => none
  | _ => none

theorem ofInt_wrap (k : IntKind) (u : Nat) : BitVec.ofInt k.bits (k.wrap u) = BitVec.ofNat k.bits u := by
  apply BitVec.eq_of_toInt_eq
  rw [BitVec.toInt_ofInt, BitVec.toInt_ofNat']
  have : (k.wrap u).bmod (2 ^ k.bits) = (u : Int).bmod (2 ^ k.bits) := by
    have h1 : ((2 ^ k.bits : Nat) : Int) = (md k : Int) := rfl
    rw [← Int.emod_bmod, ← Int.emod_bmod (x := (u : Int)), h1, wrap_emod]
  exact this

theorem beqN_false (a b : Nat) : a.beq b = false ↔ ¬ a = b := by
  constructor
  · exact Nat.ne_of_beq_eq_false
  · intro h; cases e : a.beq b with
    | false => rfl
    | true => exact absurd (Nat.eq_of_beq_eq_true e) h

theorem binInt_ok (σ : Nat → Value) (c : Cx) (P : Program) (w : World) (op : BinOp) (k : IntKind) (u v : Nat) (r : AV) (h : binInt op k u v = some r) :
    (match op with
    | .add | .sub | .mul => Op.intArith op k (k.wrap u) (k.wrap v)
    | .quo | .rem => Op.intDiv op k (k.wrap u) (k.wrap v)
    | .and | .or | .xor | .andNot => Op.intBits op k (k.wrap u) (k.wrap v)
    | _ => Op.intCmp op (k.wrap u) (k.wrap v)).run P w = .ok (r.conc σ c) w ∧ ∀ p, r.all p := by
  cases op <;> simp only [binInt, Option.some.injEq, reduceCtorEq] at h
  case add =>
    subst h; refine ⟨?_, fun _ => trivial⟩
    simp only [Op.intArith, Sem.run_pure, AV.conc]
    rw [wrap_add]
    show _ = Result.ok (Value.int k (k.wrap ((u + v) % md k : Nat))) w
    rw [wrap_cast_mod]; simp
  case sub =>
    subst h; refine ⟨?_, fun _ => trivial⟩
    simp only [Op.intArith, Sem.run_pure, AV.conc]
    rw [subN_eq]
  case mul =>
    subst h; refine ⟨?_, fun _ => trivial⟩
    simp only [Op.intArith, Sem.run_pure, AV.conc]
    rw [wrap_mul]
    show _ = Result.ok (Value.int k (k.wrap ((u * v) % md k : Nat))) w
    rw [wrap_cast_mod]; simp
  case quo =>
    split at h
    · rename_i hc
      simp only [Bool.and_eq_true, Bool.not_eq_eq_eq_not, Bool.not_true] at hc
      obtain ⟨⟨h1, h2⟩, h3⟩ := hc
      cases h; refine ⟨?_, fun _ => trivial⟩
      rw [natN_eq h1, natN_eq h2]
      have : (v : Int) ≠ 0 := by simpa using Nat.ne_of_beq_eq_false h3
      simp only [Op.intDiv, this, if_false, Sem.run_pure, AV.conc]
      rfl
    · cases h
  case rem =>
    split at h
    · rename_i hc
      simp only [Bool.and_eq_true, Bool.not_eq_eq_eq_not, Bool.not_true] at hc
      obtain ⟨⟨h1, h2⟩, h3⟩ := hc
      cases h; refine ⟨?_, fun _ => trivial⟩
      have h5 := natN_eq h1
      rw [natN_eq h1, natN_eq h2]
      have hv : (v : Int) ≠ 0 := by simpa using Nat.ne_of_beq_eq_false h3
      simp only [Op.intDiv, hv, if_false, Sem.run_pure, AV.conc]
      have h4 : natN k (Nat.mod u v) = true := by
        have : Nat.mod u v ≤ u := Nat.mod_le u v
        unfold natN at h1 ⊢
        cases hs : k.signed <;> rw [hs] at h1 <;> simp only [Nat.blt_eq] at h1 ⊢ <;> omega
      rw [natN_eq h4]
      rfl
    · cases h
  case and =>
    subst h; refine ⟨?_, fun _ => trivial⟩
    simp only [Op.intBits, Sem.run_pure, AV.conc, ofInt_wrap]
    simp [md]
    rfl
  case or =>
    subst h; refine ⟨?_, fun _ => trivial⟩
    simp only [Op.intBits, Sem.run_pure, AV.conc, ofInt_wrap]
    simp [md]
    rfl
  case xor =>
    subst h; refine ⟨?_, fun _ => trivial⟩
    simp only [Op.intBits, Sem.run_pure, AV.conc, ofInt_wrap]
    simp [md]
    rfl
  all_goals
    subst h; refine ⟨?_, fun _ => trivial⟩
    simp only [Op.intCmp, Sem.run_pure, AV.conc]
    congr 2
    rw [Bool.eq_iff_iff]
    simp [Nat.blt_eq, ordN_lt, ordN_le, ordN_inj, beqN_false]

theorem shInt_ok (σ : Nat → Value) (c : Cx) (P : Program) (w : World) (op : BinOp) (k yk : IntKind) (u v : Nat) (r : AV) (h : shInt op k u yk v = some r) :
    (Op.shift op k (k.wrap u) yk (yk.wrap v)).run P w = .ok (r.conc σ c) w ∧ ∀ p, r.all p := by
  cases op <;> simp only [shInt, reduceCtorEq] at h
  case shl =>
    split at h
    · rename_i hv
      cases h; refine ⟨?_, fun _ => trivial⟩
      have e := natN_eq hv
      have hn : ¬ ((v : Int) < 0) := by omega
      simp only [Op.shift, e, hn, if_false, Sem.run_pure, AV.conc, Int.toNat_natCast]
      show _ = Result.ok (Value.int k (k.wrap (((u <<< (min v k.bits)) % md k : Nat) : Int))) w
      rw [wrap_cast_mod]
      congr 2
      apply wrap_congr
      rw [Nat.shiftLeft_eq, Int.mul_emod, wrap_emod, ← Int.mul_emod]
      simp
    · cases h
  case shr =>
    split at h
    · rename_i hv hu
      cases h; refine ⟨?_, fun _ => trivial⟩
      have e := natN_eq hv
      have e2 := natN_eq hu
      have hn : ¬ ((v : Int) < 0) := by omega
      simp only [Op.shift, e, e2, hn, if_false, Sem.run_pure, AV.conc, Int.toNat_natCast]
      have h4 : natN k (Nat.shiftRight u (Nat.min v k.bits)) = true := by
        have : Nat.shiftRight u (Nat.min v k.bits) ≤ u := Nat.shiftRight_le u _
        unfold natN at hu ⊢
        cases hs : k.signed <;> rw [hs] at hu <;> simp only [Nat.blt_eq] at hu ⊢ <;> omega
      rw [natN_eq h4]
      congr 2
      show _ = ((u >>> (min v k.bits) : Nat) : Int)
      rw [Nat.shiftRight_eq_div_pow]
      have hp : (0 : Int) ≤ 2 ^ (min v k.bits) := Int.pow_nonneg (by decide)
      rw [Int.fdiv_eq_ediv_of_nonneg _ hp]
      simp
    · rename_i hv hu
      cases hs2 : (k.signed && Nat.ble (half k) (Nat.mod u (md k))) with
      | false => rw [hs2] at h; cases h
      | true =>
      rw [hs2] at h
      simp only [Option.some.injEq] at h
      subst h
      refine ⟨?_, fun _ => trivial⟩
      simp only [Bool.and_eq_true] at hs2
      obtain ⟨hs, hge⟩ := hs2
      have hge : half k ≤ u % md k := Nat.le_of_ble_eq_true hge
      have e := natN_eq hv
      have hn : ¬ ((v : Int) < 0) := by omega
      simp only [Op.shift, e, hn, if_false, Sem.run_pure, AV.conc, Int.toNat_natCast]
      congr 2
      have em := md_half k
      have hb : (2 ^ k.bits : Int) = (md k : Int) := by unfold md; simp
      have hb2 : (2 ^ (k.bits - 1) : Int) = (half k : Int) := by unfold half; simp
      have hp0 : 0 < half k := by cases k <;> decide
      show (k.wrap (u : Int)).fdiv (2 ^ min v k.bits) = k.wrap ((md k - (1 + (md k - (1 + u % md k)) >>> (min v k.bits)) : Nat) : Int)
      have hd : 0 < 2 ^ (min v k.bits) := Nat.pow_pos (by decide)
      rw [Nat.shiftRight_eq_div_pow]
      have hm : u % md k < md k := Nat.mod_lt _ (md_pos k)
      have w1 : ∀ x : Nat, half k ≤ x → x < md k → k.wrap (x : Int) = (x : Int) - md k := by
        intro x h1 h2
        unfold IntKind.wrap
        rw [hb, hb2, hs]
        simp only [Bool.true_and, decide_eq_true_eq, ← Int.natCast_emod, Nat.mod_eq_of_lt h2]
        rw [if_pos (by omega)]
      have w2 : k.wrap (u : Int) = ((u % md k : Nat) : Int) - md k := by
        rw [← wrap_cast_mod]; exact w1 _ hge hm
      rw [w2]
      generalize u % md k = m at *
      obtain ⟨q, hq⟩ : ∃ q, m = md k - (1 + q) ∧ q < half k := ⟨md k - (1 + m), by omega, by omega⟩
      obtain ⟨hq, hq2⟩ := hq
      have h3 : md k - (1 + m) = q := by omega
      rw [h3]
      have h4 : q / 2 ^ min v k.bits ≤ q := Nat.div_le_self _ _
      have h7 : half k ≤ md k - (1 + q / 2 ^ min v k.bits) := by generalize q / 2 ^ min v k.bits = z at *; omega
      have h8 : md k - (1 + q / 2 ^ min v k.bits) < md k := by generalize q / 2 ^ min v k.bits = z at *; omega
      rw [w1 _ h7 h8]
      have h5 : ((m : Nat) : Int) - md k = Int.negSucc q := by rw [Int.negSucc_eq]; omega
      rw [h5, Int.fdiv_eq_ediv_of_nonneg _ (Int.pow_nonneg (by decide))]
      have h6 : ((2 : Int) ^ min v k.bits) = ((2 ^ min v k.bits : Nat) : Int) := by simp
      rw [h6, Int.negSucc_ediv _ (by exact_mod_cast hd)]
      have h9 : (q : Int).ediv ((2 ^ min v k.bits : Nat) : Int) = ((q / 2 ^ min v k.bits : Nat) : Int) := rfl
      rw [h9]
      generalize q / 2 ^ min v k.bits = z at *
      omega
    · cases h
end Go.Ev
