/- Two functions without a body. -/
import Derived.Test.YteijaoaiiddcgaaGreatDoorEvDrw4
import Derived.Laws.Externs
namespace Go.Ev
open Go

/-- Behind the place of the first byte that is a given one, or nothing. -/
def idxB : Nat → Nat → Nat → Nat → Nat
  | 0, _, _, _ => 0
  | k + 1, i, c, u => match Nat.beq (Nat.mod c 256) u with
    | true => Nat.succ i
    | false => idxB k (Nat.succ i) (Nat.div c 256) u

theorem byteAt_ofNat (c i : Nat) : byteAt c i = UInt8.ofNat (c / 2 ^ (8 * i) % 256) := by
  unfold byteAt
  show UInt8.ofNat ((c >>> (8 * i)) % 256) = _
  rw [Nat.shiftRight_eq_div_pow]

theorem ofNat8_inj {a b : Nat} (ha : a < 256) (hb : b < 256) : UInt8.ofNat a = UInt8.ofNat b ↔ a = b := by
  constructor
  · intro h
    have := congrArg UInt8.toNat h
    simp only [UInt8.toNat_ofNat'] at this
    omega
  · intro h; rw [h]

theorem idxB_ok (c0 : Nat) {u : Nat} (hu : u < 256) : ∀ (k i : Nat), idxB k i (c0 / 2 ^ (8 * i)) u = match (List.range' i k).find? (fun j => byteAt c0 j == UInt8.ofNat u) with
    | some j => j + 1
    | none => 0
  | 0, i => rfl
  | k + 1, i => by
    rw [idxB, List.range'_succ, List.find?_cons]
    have hb : (byteAt c0 i == UInt8.ofNat u) = Nat.beq (Nat.mod (c0 / 2 ^ (8 * i)) 256) u := by
      rw [byteAt_ofNat, Bool.eq_iff_iff, beq_iff_eq, ofNat8_inj (Nat.mod_lt _ (by decide)) hu, Nat.beq_eq]
      rfl
    rw [hb]
    cases Nat.beq (Nat.mod (c0 / 2 ^ (8 * i)) 256) u with
    | true => rfl
    | false =>
      simp only
      have : Nat.div (c0 / 2 ^ (8 * i)) 256 = c0 / 2 ^ (8 * (i + 1)) := by
        show c0 / 2 ^ (8 * i) / 256 = _
        rw [Nat.div_div_eq_div_mul]; congr 1
        rw [show 8 * (i + 1) = 8 * i + 8 by omega, Nat.pow_add]
      rw [this]
      exact idxB_ok c0 hu k (i + 1)

/-- What the two come to. -/
def exA (fe fi : Nat) : FuncId → List AV → Option AV := fun f xs => match xs with
  | [x] => match Nat.beq f fe with
    | true => some x
    | false => none
  | [.str n c, .int .u8 u] => match Nat.beq f fi && Nat.blt u 256 && Nat.ble n 9223372036854775807 with
    | true => match idxB n 0 c u with
      | 0 => some (.int .i64 18446744073709551615)
      | i + 1 => some (.int .i64 i)
    | false => none
  | _ => none

theorem textOf_at {n c i : Nat} (h : i < n) : (textOf n c)[i]! = byteAt c i := by
  have hs : i < (textOf n c).size := by rw [textOf_size]; exact h
  rw [getElem!_pos (textOf n c) i hs]
  show (bytesOf n c).toArray[i]'_ = _
  simp [bytesOf]

theorem find_congr {α : Type} {p q : α → Bool} : ∀ {l : List α}, (∀ x ∈ l, p x = q x) → l.find? p = l.find? q
  | [], _ => rfl
  | x :: l, h => by
    rw [List.find?_cons, List.find?_cons, h x List.mem_cons_self, find_congr fun y hy => h y (List.mem_cons_of_mem _ hy)]

theorem firstIdx_text {n c u : Nat} (hu : u < 256) : firstIdx (textOf n c) (UInt8.ofNat u) = match idxB n 0 c u with
    | 0 => -1
    | i + 1 => (i : Int) := by
  have h1 := idxB_ok c hu n 0
  rw [Nat.mul_zero, Nat.pow_zero, Nat.div_one] at h1
  rw [h1]
  unfold firstIdx
  rw [textOf_size, List.range_eq_range']
  have h2 : (List.range' 0 n).find? (fun i => (textOf n c)[i]! == UInt8.ofNat u) = (List.range' 0 n).find? (fun j => byteAt c j == UInt8.ofNat u) := by
    refine find_congr fun i hi => ?_
    have := (List.mem_range'_1.1 hi).2
    rw [textOf_at (by omega)]
  rw [h2]
  cases (List.range' 0 n).find? (fun j => byteAt c j == UInt8.ofNat u) <;> rfl

theorem idxB_le {u : Nat} : ∀ (k i c : Nat), idxB k i c u ≤ i + k
  | 0, i, c => Nat.zero_le _
  | k + 1, i, c => by
    rw [idxB]
    split
    · show i + 1 ≤ _; omega
    · have := idxB_le (u := u) k (Nat.succ i) (Nat.div c 256)
      have h2 : Nat.succ i = i + 1 := rfl
      omega

theorem exA_ok {σ : Nat → Value} {P : Program} {fe fi : Nat} {fne fni : Func} (he : P.funcs[fe]? = some fne) (hi : P.funcs[fi]? = some fni)
    (he1 : (fne.name == "runtime.NumGoroutine") = false) (he2 : fne.body.isNone = true) (he3 : (Extern.findNext fne).isNone = true) (he4 : Extern.find fne = some Extern.AbiNoEscape.same)
    (hi1 : (fni.name == "runtime.NumGoroutine") = false) (hi2 : fni.body.isNone = true) (hi3 : (Extern.findNext fni).isNone = true) (hi4 : Extern.find fni = some Extern.BytealgIndexByte.indexByte) :
    ExOk σ P (exA fe fi) := by
  intro f args v c w hv ha
  unfold exA at hv
  split at hv
  · rename_i x
    split at hv
    · rename_i hb
      have := Nat.eq_of_beq_eq_true hb
      subst this
      cases hv
      refine ⟨?_, ha.1⟩
      rw [run_callFunc_extern he he1 he2 (by simpa using he3) he4]
      rfl
    · cases hv
  · rename_i n cc u
    split at hv
    · rename_i hb
      simp only [Bool.and_eq_true] at hb
      obtain ⟨⟨hb1, hb2⟩, hb3⟩ := hb
      have := Nat.eq_of_beq_eq_true hb1
      subst this
      rw [Nat.blt_eq] at hb2
      have hb3 := Nat.le_of_ble_eq_true hb3
      have hrun : (callFunc f (AV.concL σ c [.str n cc, .int .u8 u]).toArray).run P w = .ok (.value (.int .i64 (firstIdx (textOf n cc) (UInt8.ofNat u)))) w := by
        rw [run_callFunc_extern hi hi1 hi2 (by simpa using hi3) hi4]
        have hw : IntKind.u8.wrap (u : Int) = (u : Int) := by
          simp only [IntKind.wrap, IntKind.bits, IntKind.signed, Bool.false_and, Bool.false_eq_true, if_false]
          omega
        have : (AV.concL σ c [.str n cc, .int .u8 u]).toArray = #[.string (textOf n cc), .int .u8 (u : Int)] := by
          simp only [AV.concL, AV.conc, hw]
        rw [this, run_indexByte_string]
        have : (u : Int).toNat.toUInt8 = UInt8.ofNat u := by simp
        rw [this]; rfl
      rw [hrun, firstIdx_text hb2]
      have hle := idxB_le (u := u) n 0 cc
      split at hv
      · rename_i hz
        cases hv
        refine ⟨?_, trivial⟩
        rfl
      · rename_i i hz
        cases hv
        rw [hz] at hle
        refine ⟨?_, trivial⟩
        have : IntKind.i64.wrap (i : Int) = (i : Int) := wrap_small .i64 i (by show i < 9223372036854775808; omega)
        simp only [AV.conc, this]
    · cases hv
  · cases hv

end Go.Ev
