/- A trie keyed by positive numbers, made for the kernel's reduction: its laws. -/
import Derived.Orders
namespace Go.Ev

/-- Positive numbers in binary, the lowest digit outermost. -/
inductive Pos where
  | h
  | o (p : Pos)
  | i (p : Pos)
  deriving DecidableEq, Inhabited

def Pos.num : Pos → Nat
  | .h => 1
  | .o p => 2 * p.num
  | .i p => 2 * p.num + 1

theorem Pos.num_pos : ∀ p : Pos, 0 < p.num
  | .h => by simp [Pos.num]
  | .o p => by have := Pos.num_pos p; simp [Pos.num]; omega
  | .i p => by simp [Pos.num]

theorem Pos.num_inj : ∀ {p q : Pos}, p.num = q.num → p = q
  | .h, .h, _ => rfl
  | .h, .o q, e => by have := q.num_pos; simp only [Pos.num] at e; omega
  | .h, .i q, e => by have := q.num_pos; simp only [Pos.num] at e; omega
  | .o p, .h, e => by have := p.num_pos; simp only [Pos.num] at e; omega
  | .i p, .h, e => by have := p.num_pos; simp only [Pos.num] at e; omega
  | .o p, .i q, e => by simp only [Pos.num] at e; omega
  | .i p, .o q, e => by simp only [Pos.num] at e; omega
  | .o p, .o q, e => by rw [Pos.num_inj (p := p) (q := q) (by simp only [Pos.num] at e; omega)]
  | .i p, .i q, e => by rw [Pos.num_inj (p := p) (q := q) (by simp only [Pos.num] at e; omega)]

noncomputable section
variable {α : Type} {R : Type}

/-- The next number, in continuation form. -/
def Pos.succK (p : Pos) : (Pos → R) → R :=
  Pos.rec (motive := fun _ => (Pos → R) → R) (fun k => k (.o .h)) (fun p _ k => k (.i p)) (fun _ ih k => ih fun q => k (.o q)) p

def Pos.succ : Pos → Pos
  | .h => .o .h
  | .o p => .i p
  | .i p => .o p.succ

theorem Pos.succK_eq : ∀ (p : Pos) (k : Pos → R), p.succK k = k p.succ
  | .h, _ => rfl
  | .o _, _ => rfl
  | .i p, k => Pos.succK_eq p fun q => k (.o q)

theorem Pos.num_succ : ∀ p : Pos, p.succ.num = p.num + 1
  | .h => rfl
  | .o p => rfl
  | .i p => by simp [Pos.succ, Pos.num, Pos.num_succ p]; omega

inductive Tr (α : Type) where
  | leaf
  | n (l : Tr α) (v : Option α) (r : Tr α)

def Tr.get (p : Pos) : Tr α → Option α :=
  Pos.rec (motive := fun _ => Tr α → Option α)
    (fun t => Tr.rec (motive := fun _ => Option α) none (fun _ v _ _ _ => v) t)
    (fun _ ih t => Tr.rec (motive := fun _ => Option α) none (fun l _ _ _ _ => ih l) t)
    (fun _ ih t => Tr.rec (motive := fun _ => Option α) none (fun _ _ r _ _ => ih r) t) p

/-- The trie with a new entry, in continuation form: what is handed on is laid out. -/
def Tr.setK (p : Pos) (x : α) : Tr α → (Tr α → R) → R :=
  Pos.rec (motive := fun _ => Tr α → (Tr α → R) → R)
    (fun t k => Tr.rec (motive := fun _ => R) (k (.n .leaf (some x) .leaf)) (fun l _ r _ _ => k (.n l (some x) r)) t)
    (fun _ ih t k => Tr.rec (motive := fun _ => R) (ih .leaf fun l => k (.n l none .leaf)) (fun l v r _ _ => ih l fun l => k (.n l v r)) t)
    (fun _ ih t k => Tr.rec (motive := fun _ => R) (ih .leaf fun r => k (.n .leaf none r)) (fun l v r _ _ => ih r fun r => k (.n l v r)) t) p

def Tr.set : Pos → α → Tr α → Tr α
  | .h, x, .leaf => .n .leaf (some x) .leaf
  | .h, x, .n l _ r => .n l (some x) r
  | .o p, x, .leaf => .n (Tr.set p x .leaf) none .leaf
  | .o p, x, .n l v r => .n (Tr.set p x l) v r
  | .i p, x, .leaf => .n .leaf none (Tr.set p x .leaf)
  | .i p, x, .n l v r => .n l v (Tr.set p x r)

theorem Tr.setK_eq (x : α) : ∀ (p : Pos) (t : Tr α) (k : Tr α → R), Tr.setK p x t k = k (Tr.set p x t)
  | .h, .leaf, _ => rfl
  | .h, .n .., _ => rfl
  | .o p, .leaf, k => by rw [Tr.set]; exact Tr.setK_eq x p .leaf fun l => k (.n l none .leaf)
  | .o p, .n l v r, k => by rw [Tr.set]; exact Tr.setK_eq x p l fun l => k (.n l v r)
  | .i p, .leaf, k => by rw [Tr.set]; exact Tr.setK_eq x p .leaf fun r => k (.n .leaf none r)
  | .i p, .n l v r, k => by rw [Tr.set]; exact Tr.setK_eq x p r fun r => k (.n l v r)

@[simp] theorem Tr.get_e (p : Pos) : Tr.get p (.leaf : Tr α) = none := by cases p <;> rfl

theorem Tr.get_set (x : α) : ∀ (p q : Pos) (t : Tr α), Tr.get q (Tr.set p x t) = if q = p then some x else Tr.get q t
  | .h, .h, .leaf => rfl
  | .h, .h, .n .. => rfl
  | .h, .o q, .leaf => by simp [Tr.set]; exact Tr.get_e q
  | .h, .o q, .n l v r => by simp [Tr.set]; rfl
  | .h, .i q, .leaf => by simp [Tr.set]; exact Tr.get_e q
  | .h, .i q, .n l v r => by simp [Tr.set]; rfl
  | .o p, .h, .leaf => by simp [Tr.set]; rfl
  | .o p, .h, .n l v r => by simp [Tr.set]; rfl
  | .o p, .o q, .leaf => by
    have h := Tr.get_set x p q .leaf
    rw [Tr.set]
    change Tr.get q (Tr.set p x .leaf) = _
    rw [h]; by_cases e : q = p <;> simp [e]
  | .o p, .o q, .n l v r => by
    have h := Tr.get_set x p q l
    rw [Tr.set]
    change Tr.get q (Tr.set p x l) = _
    rw [h]; by_cases e : q = p <;> simp [e]; rfl
  | .o p, .i q, .leaf => by simp [Tr.set]; exact Tr.get_e q
  | .o p, .i q, .n l v r => by simp [Tr.set]; rfl
  | .i p, .h, .leaf => by simp [Tr.set]; rfl
  | .i p, .h, .n l v r => by simp [Tr.set]; rfl
  | .i p, .i q, .leaf => by
    have h := Tr.get_set x p q .leaf
    rw [Tr.set]
    change Tr.get q (Tr.set p x .leaf) = _
    rw [h]; by_cases e : q = p <;> simp [e]
  | .i p, .i q, .n l v r => by
    have h := Tr.get_set x p q r
    rw [Tr.set]
    change Tr.get q (Tr.set p x r) = _
    rw [h]; by_cases e : q = p <;> simp [e]; rfl
  | .i p, .o q, .leaf => by simp [Tr.set]; exact Tr.get_e q
  | .i p, .o q, .n l v r => by simp [Tr.set]; rfl

/-- A number's place: n stands at n + 1. -/
def posF (k : Nat) : Nat → Pos :=
  Nat.rec (motive := fun _ => Nat → Pos) (fun _ => .h)
    (fun _ ih m => Bool.rec (Bool.rec (.i (ih (Nat.div m 2))) (.o (ih (Nat.div m 2))) (Nat.beq (Nat.mod m 2) 0)) .h (Nat.ble m 1)) k

theorem posF_num : ∀ (k m : Nat), 0 < m → m ≤ k → (posF k m).num = m
  | 0, m, h, h' => by omega
  | k + 1, m, h, h' => by
    change (Bool.rec (Bool.rec (Pos.i (posF k (Nat.div m 2))) (Pos.o (posF k (Nat.div m 2))) (Nat.beq (Nat.mod m 2) 0)) Pos.h (Nat.ble m 1) : Pos).num = m
    have hd : Nat.div m 2 = m / 2 := rfl
    have hm : Nat.mod m 2 = m % 2 := rfl
    cases e : Nat.ble m 1 with
    | true =>
      have := Nat.le_of_ble_eq_true e
      simp only [Pos.num]; omega
    | false =>
      have h1 : ¬ m ≤ 1 := fun hh => by simp [Nat.ble_eq_true_of_le hh] at e
      have ih := posF_num k (m / 2) (by omega) (by omega)
      rw [hd, hm]
      cases e2 : Nat.beq (m % 2) 0 with
      | true =>
        have := Nat.eq_of_beq_eq_true e2
        simp only [Pos.num, ih]; omega
      | false =>
        have := Nat.ne_of_beq_eq_false e2
        simp only [Pos.num, ih]; omega

def posOf (n : Nat) : Pos := posF (n + 1) (n + 1)

theorem posOf_num (n : Nat) : (posOf n).num = n + 1 := posF_num _ _ (by omega) (Nat.le_refl _)

theorem posOf_inj {m n : Nat} (h : posOf m = posOf n) : m = n := by
  have := congrArg Pos.num h
  rw [posOf_num, posOf_num] at this
  omega

/-- A number, laid out. -/
def forceN (n : Nat) (k : Nat → R) : R := Nat.rec (motive := fun _ => R) (k 0) (fun m _ => k (Nat.succ m)) n

theorem forceN_eq (n : Nat) (k : Nat → R) : forceN n k = k n := by cases n <;> rfl

end
end Go.Ev
