/- Texts as numbers: what their bytes are. -/
import Derived.Test.YteijaoaiiddcgaaGreatDoorEvOps0
import Derived.Laws.Strings2
import Derived.Laws.Concat
namespace Go.Ev
open Go

theorem bytesOf_zero (c : Nat) : bytesOf 0 c = [] := rfl

theorem byteAt_succ (c i : Nat) : byteAt c (i + 1) = byteAt (c / 256) i := by
  unfold byteAt
  congr 1
  show (c >>> (8 * (i + 1))) % 256 = ((c / 256) >>> (8 * i)) % 256
  have : c / 256 = c >>> 8 := by rw [Nat.shiftRight_eq_div_pow]
  rw [this, ← Nat.shiftRight_add]
  congr 2; omega

theorem bytesOf_succ (n c : Nat) : bytesOf (n + 1) c = UInt8.ofNat (c % 256) :: bytesOf n (c / 256) := by
  unfold bytesOf
  rw [List.range_succ_eq_map, List.map_cons, List.map_map]
  congr 1
  refine List.map_congr_left fun i _ => ?_
  exact byteAt_succ c i

@[simp] theorem bytesOf_length (n c : Nat) : (bytesOf n c).length = n := by simp [bytesOf]

theorem bytesOf_eq_iff : ∀ (n c d : Nat), bytesOf n c = bytesOf n d ↔ c % 256 ^ n = d % 256 ^ n
  | 0, c, d => by simp [bytesOf_zero, Nat.mod_one]
  | n + 1, c, d => by
    rw [bytesOf_succ, bytesOf_succ, List.cons.injEq, bytesOf_eq_iff n]
    have hu : UInt8.ofNat (c % 256) = UInt8.ofNat (d % 256) ↔ c % 256 = d % 256 := by
      constructor
      · intro h
        have := congrArg UInt8.toNat h
        simpa using this
      · intro h; rw [h]
    rw [hu, Nat.pow_succ, Nat.mul_comm (256 ^ n) 256, Nat.mod_mul, Nat.mod_mul]
    have h1 : c % 256 < 256 := Nat.mod_lt _ (by decide)
    have h2 : d % 256 < 256 := Nat.mod_lt _ (by decide)
    constructor
    · rintro ⟨a, b⟩; rw [a, b]
    · intro h; constructor <;> omega

theorem bytesOf_mod (n c : Nat) : bytesOf n (c % 256 ^ n) = bytesOf n c := by
  rw [bytesOf_eq_iff]; simp

theorem bytesOf_append : ∀ (n m c d : Nat), bytesOf (n + m) (c % 256 ^ n + d * 256 ^ n) = bytesOf n c ++ bytesOf m d
  | 0, m, c, d => by simp [bytesOf_zero, Nat.mod_one]
  | n + 1, m, c, d => by
    rw [bytesOf_succ n c, List.cons_append, ← bytesOf_append n m (c / 256) d]
    rw [show n + 1 + m = (n + m) + 1 by omega, bytesOf_succ]
    have h0 : 256 ^ (n + 1) = 256 * 256 ^ n := by rw [Nat.pow_succ, Nat.mul_comm]
    have h1 : c % 256 ^ (n + 1) + d * 256 ^ (n + 1) = c % 256 + 256 * (c / 256 % 256 ^ n + d * 256 ^ n) := by
      rw [h0, Nat.mod_mul, Nat.mul_add, ← Nat.mul_assoc d, Nat.mul_comm d 256, Nat.mul_assoc]
      omega
    rw [h1]
    congr 2
    · rw [Nat.add_mul_mod_self_left, Nat.mod_mod]
    · rw [Nat.add_mul_div_left _ _ (by decide), Nat.div_eq_of_lt (Nat.mod_lt _ (by decide)), Nat.zero_add]

theorem bytesOf_drop : ∀ (off n c : Nat), (bytesOf (off + n) c).drop off = bytesOf n (c >>> (8 * off))
  | 0, n, c => by simp
  | off + 1, n, c => by
    rw [show off + 1 + n = (off + n) + 1 by omega, bytesOf_succ, List.drop_succ_cons, bytesOf_drop off n]
    congr 1
    have : c / 256 = c >>> 8 := by rw [Nat.shiftRight_eq_div_pow]
    rw [this, ← Nat.shiftRight_add]
    congr 1; omega

theorem bytesOf_take : ∀ (k n c : Nat), k ≤ n → (bytesOf n c).take k = bytesOf k c := by
  intro k n c h
  unfold bytesOf
  rw [← List.map_take, List.take_range, Nat.min_eq_left h]

theorem bytesOf_sub (n c off k : Nat) (h : off + k ≤ n) : ((bytesOf n c).drop off).take k = bytesOf k (c >>> (8 * off)) := by
  obtain ⟨m, rfl⟩ : ∃ m, n = off + m := ⟨n - off, by omega⟩
  rw [bytesOf_drop, bytesOf_take _ _ _ (by omega)]

def strEq (n c m d : Nat) : Bool := match Nat.beq n m with
  | true => Nat.beq (Nat.mod c (Nat.pow 256 n)) (Nat.mod d (Nat.pow 256 n))
  | false => false

theorem strEq_eq (n c m d : Nat) : (bytesOf n c == bytesOf m d) = strEq n c m d := by
  unfold strEq
  cases e : Nat.beq n m with
  | true =>
    have := Nat.eq_of_beq_eq_true e
    subst this
    simp only []
    rw [Bool.eq_iff_iff, beq_iff_eq, bytesOf_eq_iff]
    show _ ↔ Nat.beq (c % 256 ^ n) (d % 256 ^ n) = true
    rw [Nat.beq_eq]
  | false =>
    have := Nat.ne_of_beq_eq_false e
    simp only [beq_eq_false_iff_ne, ne_eq]
    intro h
    have := congrArg List.length h
    simp at this
    contradiction

def strCat (n c m d : Nat) : AV := .str (Nat.add n m) (Nat.add (Nat.mod c (Nat.pow 256 n)) (Nat.shiftLeft d (Nat.mul 8 n)))

theorem pow256 (n : Nat) : 2 ^ (8 * n) = 256 ^ n := by rw [Nat.pow_mul]

theorem strCat_eq (σ : Nat → Value) (c0 : Cx) (n c m d : Nat) : (strCat n c m d).conc σ c0 = .string (textOf n c ++ textOf m d) := by
  unfold strCat
  simp only [AV.conc, textOf]
  rw [ByteArray.mk_append_mk, ← bytesOf_append]
  show Value.string ⟨(bytesOf (n + m) (c % 256 ^ n + d <<< (8 * n))).toArray⟩ = _
  rw [Nat.shiftLeft_eq, pow256]

/-- In the order of texts, byte by byte. -/
def strLt : Nat → Nat → Nat → Nat → Bool
  | _, _, 0, _ => false
  | 0, _, _ + 1, _ => true
  | n + 1, c, m + 1, d => Nat.blt (Nat.mod c 256) (Nat.mod d 256) || (Nat.beq (Nat.mod c 256) (Nat.mod d 256) && strLt n (Nat.div c 256) m (Nat.div d 256))

theorem strLt_eq : ∀ (n c m d : Nat), Op.bytesLess (bytesOf n c) (bytesOf m d) = strLt n c m d
  | n, c, 0, d => by rw [bytesOf_zero]; cases n <;> simp [strLt, Op.bytesLess]
  | 0, c, m + 1, d => by rw [bytesOf_zero, bytesOf_succ]; simp [strLt, Op.bytesLess]
  | n + 1, c, m + 1, d => by
    rw [bytesOf_succ, bytesOf_succ]
    simp only [Op.bytesLess, strLt]
    rw [strLt_eq n (c / 256) m (d / 256)]
    have h1 : (UInt8.ofNat (c % 256) < UInt8.ofNat (d % 256)) ↔ c % 256 < d % 256 := by
      rw [UInt8.lt_iff_toNat_lt]; simp
    have h2 : (UInt8.ofNat (c % 256) = UInt8.ofNat (d % 256)) ↔ c % 256 = d % 256 := by
      constructor
      · intro h; simpa using congrArg UInt8.toNat h
      · intro h; rw [h]
    have e1 : decide (UInt8.ofNat (c % 256) < UInt8.ofNat (d % 256)) = Nat.blt (Nat.mod c 256) (Nat.mod d 256) := by
      rw [Bool.eq_iff_iff, decide_eq_true_eq, h1, Nat.blt_eq]; rfl
    have e2 : (UInt8.ofNat (c % 256) == UInt8.ofNat (d % 256)) = Nat.beq (Nat.mod c 256) (Nat.mod d 256) := by
      rw [Bool.eq_iff_iff, beq_iff_eq, h2, Nat.beq_eq]; rfl
    rw [e1, e2]
    rfl

def binStr (op : BinOp) (n c m d : Nat) : Option AV :=
  match op with
  | .add => match Nat.ble (Nat.add n m) 4611686018427387904 with
    | true => some (strCat n c m d)
    | false => none
  | .eql => some (.bool (strEq n c m d))
  | .neq => some (.bool (!strEq n c m d))
  | .lss => some (.bool (strLt n c m d))
  | .leq => some (.bool (strLt n c m d || strEq n c m d))
  | .gtr => some (.bool !(strLt n c m d || strEq n c m d))
  | .geq => some (.bool !(strLt n c m d))
  | _ => none

theorem textOf_toList (n c : Nat) : (textOf n c).toList = bytesOf n c := by
  unfold textOf; rw [ByteArray.toList_mk]

@[simp] theorem textOf_size (n c : Nat) : (textOf n c).size = n := by
  unfold textOf; rw [ByteArray.size_mk']; simp

theorem binStr_ok (σ : Nat → Value) (c0 : Cx) (P : Program) (w : World) (op : BinOp) (n c m d : Nat) (r : AV) (h : binStr op n c m d = some r) :
    (Op.stringOp op (textOf n c) (textOf m d)).run P w = .ok (r.conc σ c0) w ∧ ∀ p, r.all p := by
  cases op <;> simp only [binStr, Option.some.injEq, reduceCtorEq] at h
  case add =>
    split at h
    · rename_i hb
      cases h; refine ⟨?_, fun _ => trivial⟩
      have hb : n + m ≤ 4611686018427387904 := Nat.le_of_ble_eq_true hb
      have hs : ((textOf n c).size + (textOf m d).size : Nat) ≤ 9223372036854775807 := by rw [textOf_size, textOf_size]; omega
      rw [strCat_eq]
      exact run_string_add_sum w _ _ hs
    · cases h
  all_goals
    subst h; refine ⟨?_, fun _ => trivial⟩
    simp only [Op.stringOp, Sem.run_pure, AV.conc, textOf_toList, strEq_eq, strLt_eq]

/-- A text that stands in the program, as a number. -/
def codeOf : List UInt8 → Nat
  | [] => 0
  | b :: l => b.toNat + 256 * codeOf l

theorem bytesOf_codeOf : ∀ l : List UInt8, bytesOf l.length (codeOf l) = l
  | [] => rfl
  | b :: l => by
    rw [List.length_cons, bytesOf_succ]
    have h : b.toNat < 256 := b.toNat_lt
    have h1 : codeOf (b :: l) % 256 = b.toNat := by simp only [codeOf]; omega
    have h2 : codeOf (b :: l) / 256 = codeOf l := by simp only [codeOf]; omega
    rw [h1, h2, bytesOf_codeOf l]
    simp

theorem textOf_codeOf (s : ByteArray) : textOf s.data.toList.length (codeOf s.data.toList) = s := by
  unfold textOf; rw [bytesOf_codeOf]

end Go.Ev
