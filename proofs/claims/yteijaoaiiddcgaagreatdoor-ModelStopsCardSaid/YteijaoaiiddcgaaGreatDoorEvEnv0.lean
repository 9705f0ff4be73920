/- Temporaries: a table of 256, and a trie behind it; quick functions for its places. -/
import Derived.Test.YteijaoaiiddcgaaGreatDoorEvOps0
namespace Go.Ev
open Go

noncomputable section

/-- Sixteen values. -/
structure Bk where
  c0 : AV
  c1 : AV
  c2 : AV
  c3 : AV
  c4 : AV
  c5 : AV
  c6 : AV
  c7 : AV
  c8 : AV
  c9 : AV
  c10 : AV
  c11 : AV
  c12 : AV
  c13 : AV
  c14 : AV
  c15 : AV

/-- Temporaries. -/
structure En where
  c0 : Bk
  c1 : Bk
  c2 : Bk
  c3 : Bk
  c4 : Bk
  c5 : Bk
  c6 : Bk
  c7 : Bk
  c8 : Bk
  c9 : Bk
  c10 : Bk
  c11 : Bk
  c12 : Bk
  c13 : Bk
  c14 : Bk
  c15 : Bk
  r : Tr AV

def Bk.new : Bk := ⟨.undef, .undef, .undef, .undef, .undef, .undef, .undef, .undef, .undef, .undef, .undef, .undef, .undef, .undef, .undef, .undef⟩
def En.new : En := ⟨.new, .new, .new, .new, .new, .new, .new, .new, .new, .new, .new, .new, .new, .new, .new, .new, .leaf⟩

def Bk.nth (s : Bk) (n : Nat) : AV := match n with
  | 0 => s.c0
  | 1 => s.c1
  | 2 => s.c2
  | 3 => s.c3
  | 4 => s.c4
  | 5 => s.c5
  | 6 => s.c6
  | 7 => s.c7
  | 8 => s.c8
  | 9 => s.c9
  | 10 => s.c10
  | 11 => s.c11
  | 12 => s.c12
  | 13 => s.c13
  | 14 => s.c14
  | _ => s.c15

def Bk.put (s : Bk) (n : Nat) (x : AV) : Bk := match n with
  | 0 => { s with c0 := x }
  | 1 => { s with c1 := x }
  | 2 => { s with c2 := x }
  | 3 => { s with c3 := x }
  | 4 => { s with c4 := x }
  | 5 => { s with c5 := x }
  | 6 => { s with c6 := x }
  | 7 => { s with c7 := x }
  | 8 => { s with c8 := x }
  | 9 => { s with c9 := x }
  | 10 => { s with c10 := x }
  | 11 => { s with c11 := x }
  | 12 => { s with c12 := x }
  | 13 => { s with c13 := x }
  | 14 => { s with c14 := x }
  | _ => { s with c15 := x }

theorem Bk.nth_put (s : Bk) (m n : Nat) (x : AV) (hm : m < 16) (hn : n < 16) : (s.put m x).nth n = if n = m then x else s.nth n := by
  rcases m with _|_|_|_|_|_|_|_|_|_|_|_|_|_|_|_|m <;> first
    | (exfalso; omega)
    | (rcases n with _|_|_|_|_|_|_|_|_|_|_|_|_|_|_|_|n <;> first
        | (exfalso; omega)
        | rfl)


def En.bk (s : En) (n : Nat) : Bk := match n with
  | 0 => s.c0
  | 1 => s.c1
  | 2 => s.c2
  | 3 => s.c3
  | 4 => s.c4
  | 5 => s.c5
  | 6 => s.c6
  | 7 => s.c7
  | 8 => s.c8
  | 9 => s.c9
  | 10 => s.c10
  | 11 => s.c11
  | 12 => s.c12
  | 13 => s.c13
  | 14 => s.c14
  | _ => s.c15

def En.putBk (s : En) (n : Nat) (x : Bk) : En := match n with
  | 0 => { s with c0 := x }
  | 1 => { s with c1 := x }
  | 2 => { s with c2 := x }
  | 3 => { s with c3 := x }
  | 4 => { s with c4 := x }
  | 5 => { s with c5 := x }
  | 6 => { s with c6 := x }
  | 7 => { s with c7 := x }
  | 8 => { s with c8 := x }
  | 9 => { s with c9 := x }
  | 10 => { s with c10 := x }
  | 11 => { s with c11 := x }
  | 12 => { s with c12 := x }
  | 13 => { s with c13 := x }
  | 14 => { s with c14 := x }
  | _ => { s with c15 := x }

theorem En.bk_putBk (s : En) (m n : Nat) (x : Bk) (hm : m < 16) (hn : n < 16) : (s.putBk m x).bk n = if n = m then x else s.bk n := by
  rcases m with _|_|_|_|_|_|_|_|_|_|_|_|_|_|_|_|m <;> first
    | (exfalso; omega)
    | (rcases n with _|_|_|_|_|_|_|_|_|_|_|_|_|_|_|_|n <;> first
        | (exfalso; omega)
        | rfl)

theorem En.r_putBk (s : En) (m : Nat) (x : Bk) : (s.putBk m x).r = s.r := by
  unfold En.putBk
  split <;> rfl

theorem Bk.nth_new (n : Nat) : Bk.new.nth n = .undef := by
  unfold Bk.nth
  split <;> rfl

theorem En.bk_new (n : Nat) : En.new.bk n = .new := by
  unfold En.bk
  split <;> rfl

/-- A temporary's value. -/
def getA (e : En) (t : Nat) : AV := match Nat.blt t 256 with
  | true => (e.bk (Nat.div t 16)).nth (Nat.mod t 16)
  | false => match Tr.get (posOf t) e.r with
    | some v => v
    | none => .undef

def En.put (t : Nat) (v : AV) (e : En) : En := match Nat.blt t 256 with
  | true => e.putBk (Nat.div t 16) ((e.bk (Nat.div t 16)).put (Nat.mod t 16) v)
  | false => { e with r := Tr.set (posOf t) v e.r }

theorem getA_new (t : Nat) : getA .new t = .undef := by
  unfold getA
  cases Nat.blt t 256 with
  | true => simp only [En.bk_new, Bk.nth_new]
  | false =>
    show (match Tr.get (posOf t) .leaf with | some v => v | none => AV.undef) = .undef
    rw [Tr.get_e]

theorem getA_set (e : En) (t i : Nat) (v : AV) : getA (En.put t v e) i = if i = t then v else getA e i := by
  unfold getA En.put
  cases ht : Nat.blt t 256 with
  | true =>
    have ht : t < 256 := by rw [Nat.blt_eq] at ht; exact ht
    cases hi : Nat.blt i 256 with
    | true =>
      have hi : i < 256 := by rw [Nat.blt_eq] at hi; exact hi
      simp only
      have e1 : Nat.div t 16 = t / 16 := rfl
      have e2 : Nat.mod t 16 = t % 16 := rfl
      have e3 : Nat.div i 16 = i / 16 := rfl
      have e4 : Nat.mod i 16 = i % 16 := rfl
      rw [e1, e2, e3, e4, En.bk_putBk _ _ _ _ (by omega) (by omega)]
      by_cases h1 : i / 16 = t / 16
      · rw [if_pos h1, Bk.nth_put _ _ _ _ (by omega) (by omega), h1]
        by_cases h2 : i % 16 = t % 16
        · rw [if_pos h2, if_pos (by omega)]
        · rw [if_neg h2, if_neg (by omega)]
      · rw [if_neg h1, if_neg (by omega)]
    | false =>
      have hi : ¬ i < 256 := fun h => by rw [← Nat.blt_eq] at h; rw [h] at hi; cases hi
      simp only [En.r_putBk]
      rw [if_neg (by omega)]
  | false =>
    have ht : ¬ t < 256 := fun h => by rw [← Nat.blt_eq] at h; rw [h] at ht; cases ht
    cases hi : Nat.blt i 256 with
    | true =>
      have hi : i < 256 := by rw [Nat.blt_eq] at hi; exact hi
      simp only
      rw [if_neg (by omega)]
      rfl
    | false =>
      simp only
      rw [Tr.get_set]
      by_cases h : i = t
      · subst h; simp
      · rw [if_neg h, if_neg fun e => h (posOf_inj e)]

/- Quick functions for a table's places. -/
abbrev GLo := Bk → (AV → Rs) → Rs
abbrev GHi := En → (Bk → Rs) → Rs
abbrev SLo := AV → Bk → (Bk → Rs) → Rs
abbrev SHi := SLo → AV → En → (En → Rs) → Rs

def gLo0 : GLo := fun s k => Bk.rec (motive := fun _ => (AV → Rs) → Rs) (fun x _ _ _ _ _ _ _ _ _ _ _ _ _ _ _ k => k x) s k
def gHi0 : GHi := fun s k => En.rec (motive := fun _ => (Bk → Rs) → Rs) (fun x _ _ _ _ _ _ _ _ _ _ _ _ _ _ _ _ k => k x) s k
def sLo0 : SLo := fun v s k => Bk.rec (motive := fun _ => AV → (Bk → Rs) → Rs) (fun _ x1 x2 x3 x4 x5 x6 x7 x8 x9 x10 x11 x12 x13 x14 x15 v k => k ⟨v, x1, x2, x3, x4, x5, x6, x7, x8, x9, x10, x11, x12, x13, x14, x15⟩) s v k
def sHi0 : SHi := fun f v s k => En.rec (motive := fun _ => SLo → AV → (En → Rs) → Rs) (fun x0 x1 x2 x3 x4 x5 x6 x7 x8 x9 x10 x11 x12 x13 x14 x15 r f v k => f v x0 fun y => k ⟨y, x1, x2, x3, x4, x5, x6, x7, x8, x9, x10, x11, x12, x13, x14, x15, r⟩) s f v k
def gLo1 : GLo := fun s k => Bk.rec (motive := fun _ => (AV → Rs) → Rs) (fun _ x _ _ _ _ _ _ _ _ _ _ _ _ _ _ k => k x) s k
def gHi1 : GHi := fun s k => En.rec (motive := fun _ => (Bk → Rs) → Rs) (fun _ x _ _ _ _ _ _ _ _ _ _ _ _ _ _ _ k => k x) s k
def sLo1 : SLo := fun v s k => Bk.rec (motive := fun _ => AV → (Bk → Rs) → Rs) (fun x0 _ x2 x3 x4 x5 x6 x7 x8 x9 x10 x11 x12 x13 x14 x15 v k => k ⟨x0, v, x2, x3, x4, x5, x6, x7, x8, x9, x10, x11, x12, x13, x14, x15⟩) s v k
def sHi1 : SHi := fun f v s k => En.rec (motive := fun _ => SLo → AV → (En → Rs) → Rs) (fun x0 x1 x2 x3 x4 x5 x6 x7 x8 x9 x10 x11 x12 x13 x14 x15 r f v k => f v x1 fun y => k ⟨x0, y, x2, x3, x4, x5, x6, x7, x8, x9, x10, x11, x12, x13, x14, x15, r⟩) s f v k
def gLo2 : GLo := fun s k => Bk.rec (motive := fun _ => (AV → Rs) → Rs) (fun _ _ x _ _ _ _ _ _ _ _ _ _ _ _ _ k => k x) s k
def gHi2 : GHi := fun s k => En.rec (motive := fun _ => (Bk → Rs) → Rs) (fun _ _ x _ _ _ _ _ _ _ _ _ _ _ _ _ _ k => k x) s k
def sLo2 : SLo := fun v s k => Bk.rec (motive := fun _ => AV → (Bk → Rs) → Rs) (fun x0 x1 _ x3 x4 x5 x6 x7 x8 x9 x10 x11 x12 x13 x14 x15 v k => k ⟨x0, x1, v, x3, x4, x5, x6, x7, x8, x9, x10, x11, x12, x13, x14, x15⟩) s v k
def sHi2 : SHi := fun f v s k => En.rec (motive := fun _ => SLo → AV → (En → Rs) → Rs) (fun x0 x1 x2 x3 x4 x5 x6 x7 x8 x9 x10 x11 x12 x13 x14 x15 r f v k => f v x2 fun y => k ⟨x0, x1, y, x3, x4, x5, x6, x7, x8, x9, x10, x11, x12, x13, x14, x15, r⟩) s f v k
def gLo3 : GLo := fun s k => Bk.rec (motive := fun _ => (AV → Rs) → Rs) (fun _ _ _ x _ _ _ _ _ _ _ _ _ _ _ _ k => k x) s k
def gHi3 : GHi := fun s k => En.rec (motive := fun _ => (Bk → Rs) → Rs) (fun _ _ _ x _ _ _ _ _ _ _ _ _ _ _ _ _ k => k x) s k
def sLo3 : SLo := fun v s k => Bk.rec (motive := fun _ => AV → (Bk → Rs) → Rs) (fun x0 x1 x2 _ x4 x5 x6 x7 x8 x9 x10 x11 x12 x13 x14 x15 v k => k ⟨x0, x1, x2, v, x4, x5, x6, x7, x8, x9, x10, x11, x12, x13, x14, x15⟩) s v k
def sHi3 : SHi := fun f v s k => En.rec (motive := fun _ => SLo → AV → (En → Rs) → Rs) (fun x0 x1 x2 x3 x4 x5 x6 x7 x8 x9 x10 x11 x12 x13 x14 x15 r f v k => f v x3 fun y => k ⟨x0, x1, x2, y, x4, x5, x6, x7, x8, x9, x10, x11, x12, x13, x14, x15, r⟩) s f v k
def gLo4 : GLo := fun s k => Bk.rec (motive := fun _ => (AV → Rs) → Rs) (fun _ _ _ _ x _ _ _ _ _ _ _ _ _ _ _ k => k x) s k
def gHi4 : GHi := fun s k => En.rec (motive := fun _ => (Bk → Rs) → Rs) (fun _ _ _ _ x _ _ _ _ _ _ _ _ _ _ _ _ k => k x) s k
def sLo4 : SLo := fun v s k => Bk.rec (motive := fun _ => AV → (Bk → Rs) → Rs) (fun x0 x1 x2 x3 _ x5 x6 x7 x8 x9 x10 x11 x12 x13 x14 x15 v k => k ⟨x0, x1, x2, x3, v, x5, x6, x7, x8, x9, x10, x11, x12, x13, x14, x15⟩) s v k
def sHi4 : SHi := fun f v s k => En.rec (motive := fun _ => SLo → AV → (En → Rs) → Rs) (fun x0 x1 x2 x3 x4 x5 x6 x7 x8 x9 x10 x11 x12 x13 x14 x15 r f v k => f v x4 fun y => k ⟨x0, x1, x2, x3, y, x5, x6, x7, x8, x9, x10, x11, x12, x13, x14, x15, r⟩) s f v k
def gLo5 : GLo := fun s k => Bk.rec (motive := fun _ => (AV → Rs) → Rs) (fun _ _ _ _ _ x _ _ _ _ _ _ _ _ _ _ k => k x) s k
def gHi5 : GHi := fun s k => En.rec (motive := fun _ => (Bk → Rs) → Rs) (fun _ _ _ _ _ x _ _ _ _ _ _ _ _ _ _ _ k => k x) s k
def sLo5 : SLo := fun v s k => Bk.rec (motive := fun _ => AV → (Bk → Rs) → Rs) (fun x0 x1 x2 x3 x4 _ x6 x7 x8 x9 x10 x11 x12 x13 x14 x15 v k => k ⟨x0, x1, x2, x3, x4, v, x6, x7, x8, x9, x10, x11, x12, x13, x14, x15⟩) s v k
def sHi5 : SHi := fun f v s k => En.rec (motive := fun _ => SLo → AV → (En → Rs) → Rs) (fun x0 x1 x2 x3 x4 x5 x6 x7 x8 x9 x10 x11 x12 x13 x14 x15 r f v k => f v x5 fun y => k ⟨x0, x1, x2, x3, x4, y, x6, x7, x8, x9, x10, x11, x12, x13, x14, x15, r⟩) s f v k
def gLo6 : GLo := fun s k => Bk.rec (motive := fun _ => (AV → Rs) → Rs) (fun _ _ _ _ _ _ x _ _ _ _ _ _ _ _ _ k => k x) s k
def gHi6 : GHi := fun s k => En.rec (motive := fun _ => (Bk → Rs) → Rs) (fun _ _ _ _ _ _ x _ _ _ _ _ _ _ _ _ _ k => k x) s k
def sLo6 : SLo := fun v s k => Bk.rec (motive := fun _ => AV → (Bk → Rs) → Rs) (fun x0 x1 x2 x3 x4 x5 _ x7 x8 x9 x10 x11 x12 x13 x14 x15 v k => k ⟨x0, x1, x2, x3, x4, x5, v, x7, x8, x9, x10, x11, x12, x13, x14, x15⟩) s v k
def sHi6 : SHi := fun f v s k => En.rec (motive := fun _ => SLo → AV → (En → Rs) → Rs) (fun x0 x1 x2 x3 x4 x5 x6 x7 x8 x9 x10 x11 x12 x13 x14 x15 r f v k => f v x6 fun y => k ⟨x0, x1, x2, x3, x4, x5, y, x7, x8, x9, x10, x11, x12, x13, x14, x15, r⟩) s f v k
def gLo7 : GLo := fun s k => Bk.rec (motive := fun _ => (AV → Rs) → Rs) (fun _ _ _ _ _ _ _ x _ _ _ _ _ _ _ _ k => k x) s k
def gHi7 : GHi := fun s k => En.rec (motive := fun _ => (Bk → Rs) → Rs) (fun _ _ _ _ _ _ _ x _ _ _ _ _ _ _ _ _ k => k x) s k
def sLo7 : SLo := fun v s k => Bk.rec (motive := fun _ => AV → (Bk → Rs) → Rs) (fun x0 x1 x2 x3 x4 x5 x6 _ x8 x9 x10 x11 x12 x13 x14 x15 v k => k ⟨x0, x1, x2, x3, x4, x5, x6, v, x8, x9, x10, x11, x12, x13, x14, x15⟩) s v k
def sHi7 : SHi := fun f v s k => En.rec (motive := fun _ => SLo → AV → (En → Rs) → Rs) (fun x0 x1 x2 x3 x4 x5 x6 x7 x8 x9 x10 x11 x12 x13 x14 x15 r f v k => f v x7 fun y => k ⟨x0, x1, x2, x3, x4, x5, x6, y, x8, x9, x10, x11, x12, x13, x14, x15, r⟩) s f v k
def gLo8 : GLo := fun s k => Bk.rec (motive := fun _ => (AV → Rs) → Rs) (fun _ _ _ _ _ _ _ _ x _ _ _ _ _ _ _ k => k x) s k
def gHi8 : GHi := fun s k => En.rec (motive := fun _ => (Bk → Rs) → Rs) (fun _ _ _ _ _ _ _ _ x _ _ _ _ _ _ _ _ k => k x) s k
def sLo8 : SLo := fun v s k => Bk.rec (motive := fun _ => AV → (Bk → Rs) → Rs) (fun x0 x1 x2 x3 x4 x5 x6 x7 _ x9 x10 x11 x12 x13 x14 x15 v k => k ⟨x0, x1, x2, x3, x4, x5, x6, x7, v, x9, x10, x11, x12, x13, x14, x15⟩) s v k
def sHi8 : SHi := fun f v s k => En.rec (motive := fun _ => SLo → AV → (En → Rs) → Rs) (fun x0 x1 x2 x3 x4 x5 x6 x7 x8 x9 x10 x11 x12 x13 x14 x15 r f v k => f v x8 fun y => k ⟨x0, x1, x2, x3, x4, x5, x6, x7, y, x9, x10, x11, x12, x13, x14, x15, r⟩) s f v k
def gLo9 : GLo := fun s k => Bk.rec (motive := fun _ => (AV → Rs) → Rs) (fun _ _ _ _ _ _ _ _ _ x _ _ _ _ _ _ k => k x) s k
def gHi9 : GHi := fun s k => En.rec (motive := fun _ => (Bk → Rs) → Rs) (fun _ _ _ _ _ _ _ _ _ x _ _ _ _ _ _ _ k => k x) s k
def sLo9 : SLo := fun v s k => Bk.rec (motive := fun _ => AV → (Bk → Rs) → Rs) (fun x0 x1 x2 x3 x4 x5 x6 x7 x8 _ x10 x11 x12 x13 x14 x15 v k => k ⟨x0, x1, x2, x3, x4, x5, x6, x7, x8, v, x10, x11, x12, x13, x14, x15⟩) s v k
def sHi9 : SHi := fun f v s k => En.rec (motive := fun _ => SLo → AV → (En → Rs) → Rs) (fun x0 x1 x2 x3 x4 x5 x6 x7 x8 x9 x10 x11 x12 x13 x14 x15 r f v k => f v x9 fun y => k ⟨x0, x1, x2, x3, x4, x5, x6, x7, x8, y, x10, x11, x12, x13, x14, x15, r⟩) s f v k
def gLo10 : GLo := fun s k => Bk.rec (motive := fun _ => (AV → Rs) → Rs) (fun _ _ _ _ _ _ _ _ _ _ x _ _ _ _ _ k => k x) s k
def gHi10 : GHi := fun s k => En.rec (motive := fun _ => (Bk → Rs) → Rs) (fun _ _ _ _ _ _ _ _ _ _ x _ _ _ _ _ _ k => k x) s k
def sLo10 : SLo := fun v s k => Bk.rec (motive := fun _ => AV → (Bk → Rs) → Rs) (fun x0 x1 x2 x3 x4 x5 x6 x7 x8 x9 _ x11 x12 x13 x14 x15 v k => k ⟨x0, x1, x2, x3, x4, x5, x6, x7, x8, x9, v, x11, x12, x13, x14, x15⟩) s v k
def sHi10 : SHi := fun f v s k => En.rec (motive := fun _ => SLo → AV → (En → Rs) → Rs) (fun x0 x1 x2 x3 x4 x5 x6 x7 x8 x9 x10 x11 x12 x13 x14 x15 r f v k => f v x10 fun y => k ⟨x0, x1, x2, x3, x4, x5, x6, x7, x8, x9, y, x11, x12, x13, x14, x15, r⟩) s f v k
def gLo11 : GLo := fun s k => Bk.rec (motive := fun _ => (AV → Rs) → Rs) (fun _ _ _ _ _ _ _ _ _ _ _ x _ _ _ _ k => k x) s k
def gHi11 : GHi := fun s k => En.rec (motive := fun _ => (Bk → Rs) → Rs) (fun _ _ _ _ _ _ _ _ _ _ _ x _ _ _ _ _ k => k x) s k
def sLo11 : SLo := fun v s k => Bk.rec (motive := fun _ => AV → (Bk → Rs) → Rs) (fun x0 x1 x2 x3 x4 x5 x6 x7 x8 x9 x10 _ x12 x13 x14 x15 v k => k ⟨x0, x1, x2, x3, x4, x5, x6, x7, x8, x9, x10, v, x12, x13, x14, x15⟩) s v k
def sHi11 : SHi := fun f v s k => En.rec (motive := fun _ => SLo → AV → (En → Rs) → Rs) (fun x0 x1 x2 x3 x4 x5 x6 x7 x8 x9 x10 x11 x12 x13 x14 x15 r f v k => f v x11 fun y => k ⟨x0, x1, x2, x3, x4, x5, x6, x7, x8, x9, x10, y, x12, x13, x14, x15, r⟩) s f v k
def gLo12 : GLo := fun s k => Bk.rec (motive := fun _ => (AV → Rs) → Rs) (fun _ _ _ _ _ _ _ _ _ _ _ _ x _ _ _ k => k x) s k
def gHi12 : GHi := fun s k => En.rec (motive := fun _ => (Bk → Rs) → Rs) (fun _ _ _ _ _ _ _ _ _ _ _ _ x _ _ _ _ k => k x) s k
def sLo12 : SLo := fun v s k => Bk.rec (motive := fun _ => AV → (Bk → Rs) → Rs) (fun x0 x1 x2 x3 x4 x5 x6 x7 x8 x9 x10 x11 _ x13 x14 x15 v k => k ⟨x0, x1, x2, x3, x4, x5, x6, x7, x8, x9, x10, x11, v, x13, x14, x15⟩) s v k
def sHi12 : SHi := fun f v s k => En.rec (motive := fun _ => SLo → AV → (En → Rs) → Rs) (fun x0 x1 x2 x3 x4 x5 x6 x7 x8 x9 x10 x11 x12 x13 x14 x15 r f v k => f v x12 fun y => k ⟨x0, x1, x2, x3, x4, x5, x6, x7, x8, x9, x10, x11, y, x13, x14, x15, r⟩) s f v k
def gLo13 : GLo := fun s k => Bk.rec (motive := fun _ => (AV → Rs) → Rs) (fun _ _ _ _ _ _ _ _ _ _ _ _ _ x _ _ k => k x) s k
def gHi13 : GHi := fun s k => En.rec (motive := fun _ => (Bk → Rs) → Rs) (fun _ _ _ _ _ _ _ _ _ _ _ _ _ x _ _ _ k => k x) s k
def sLo13 : SLo := fun v s k => Bk.rec (motive := fun _ => AV → (Bk → Rs) → Rs) (fun x0 x1 x2 x3 x4 x5 x6 x7 x8 x9 x10 x11 x12 _ x14 x15 v k => k ⟨x0, x1, x2, x3, x4, x5, x6, x7, x8, x9, x10, x11, x12, v, x14, x15⟩) s v k
def sHi13 : SHi := fun f v s k => En.rec (motive := fun _ => SLo → AV → (En → Rs) → Rs) (fun x0 x1 x2 x3 x4 x5 x6 x7 x8 x9 x10 x11 x12 x13 x14 x15 r f v k => f v x13 fun y => k ⟨x0, x1, x2, x3, x4, x5, x6, x7, x8, x9, x10, x11, x12, y, x14, x15, r⟩) s f v k
def gLo14 : GLo := fun s k => Bk.rec (motive := fun _ => (AV → Rs) → Rs) (fun _ _ _ _ _ _ _ _ _ _ _ _ _ _ x _ k => k x) s k
def gHi14 : GHi := fun s k => En.rec (motive := fun _ => (Bk → Rs) → Rs) (fun _ _ _ _ _ _ _ _ _ _ _ _ _ _ x _ _ k => k x) s k
def sLo14 : SLo := fun v s k => Bk.rec (motive := fun _ => AV → (Bk → Rs) → Rs) (fun x0 x1 x2 x3 x4 x5 x6 x7 x8 x9 x10 x11 x12 x13 _ x15 v k => k ⟨x0, x1, x2, x3, x4, x5, x6, x7, x8, x9, x10, x11, x12, x13, v, x15⟩) s v k
def sHi14 : SHi := fun f v s k => En.rec (motive := fun _ => SLo → AV → (En → Rs) → Rs) (fun x0 x1 x2 x3 x4 x5 x6 x7 x8 x9 x10 x11 x12 x13 x14 x15 r f v k => f v x14 fun y => k ⟨x0, x1, x2, x3, x4, x5, x6, x7, x8, x9, x10, x11, x12, x13, y, x15, r⟩) s f v k
def gLo15 : GLo := fun s k => Bk.rec (motive := fun _ => (AV → Rs) → Rs) (fun _ _ _ _ _ _ _ _ _ _ _ _ _ _ _ x k => k x) s k
def gHi15 : GHi := fun s k => En.rec (motive := fun _ => (Bk → Rs) → Rs) (fun _ _ _ _ _ _ _ _ _ _ _ _ _ _ _ x _ k => k x) s k
def sLo15 : SLo := fun v s k => Bk.rec (motive := fun _ => AV → (Bk → Rs) → Rs) (fun x0 x1 x2 x3 x4 x5 x6 x7 x8 x9 x10 x11 x12 x13 x14 _ v k => k ⟨x0, x1, x2, x3, x4, x5, x6, x7, x8, x9, x10, x11, x12, x13, x14, v⟩) s v k
def sHi15 : SHi := fun f v s k => En.rec (motive := fun _ => SLo → AV → (En → Rs) → Rs) (fun x0 x1 x2 x3 x4 x5 x6 x7 x8 x9 x10 x11 x12 x13 x14 x15 r f v k => f v x15 fun y => k ⟨x0, x1, x2, x3, x4, x5, x6, x7, x8, x9, x10, x11, x12, x13, x14, y, r⟩) s f v k
inductive GLoW where
  | mk (g : GLo)
def gLoW (n : Nat) : GLoW := match n with
  | 0 => .mk gLo0
  | 1 => .mk gLo1
  | 2 => .mk gLo2
  | 3 => .mk gLo3
  | 4 => .mk gLo4
  | 5 => .mk gLo5
  | 6 => .mk gLo6
  | 7 => .mk gLo7
  | 8 => .mk gLo8
  | 9 => .mk gLo9
  | 10 => .mk gLo10
  | 11 => .mk gLo11
  | 12 => .mk gLo12
  | 13 => .mk gLo13
  | 14 => .mk gLo14
  | _ => .mk gLo15
inductive GHiW where
  | mk (g : GHi)
def gHiW (n : Nat) : GHiW := match n with
  | 0 => .mk gHi0
  | 1 => .mk gHi1
  | 2 => .mk gHi2
  | 3 => .mk gHi3
  | 4 => .mk gHi4
  | 5 => .mk gHi5
  | 6 => .mk gHi6
  | 7 => .mk gHi7
  | 8 => .mk gHi8
  | 9 => .mk gHi9
  | 10 => .mk gHi10
  | 11 => .mk gHi11
  | 12 => .mk gHi12
  | 13 => .mk gHi13
  | 14 => .mk gHi14
  | _ => .mk gHi15
inductive SLoW where
  | mk (g : SLo)
def sLoW (n : Nat) : SLoW := match n with
  | 0 => .mk sLo0
  | 1 => .mk sLo1
  | 2 => .mk sLo2
  | 3 => .mk sLo3
  | 4 => .mk sLo4
  | 5 => .mk sLo5
  | 6 => .mk sLo6
  | 7 => .mk sLo7
  | 8 => .mk sLo8
  | 9 => .mk sLo9
  | 10 => .mk sLo10
  | 11 => .mk sLo11
  | 12 => .mk sLo12
  | 13 => .mk sLo13
  | 14 => .mk sLo14
  | _ => .mk sLo15
inductive SHiW where
  | mk (g : SHi)
def sHiW (n : Nat) : SHiW := match n with
  | 0 => .mk sHi0
  | 1 => .mk sHi1
  | 2 => .mk sHi2
  | 3 => .mk sHi3
  | 4 => .mk sHi4
  | 5 => .mk sHi5
  | 6 => .mk sHi6
  | 7 => .mk sHi7
  | 8 => .mk sHi8
  | 9 => .mk sHi9
  | 10 => .mk sHi10
  | 11 => .mk sHi11
  | 12 => .mk sHi12
  | 13 => .mk sHi13
  | 14 => .mk sHi14
  | _ => .mk sHi15

theorem gLoW_ok {n : Nat} (hn : n < 16) {g : GLo} (h : gLoW n = .mk g) (s : Bk) (k : AV → Rs) : g s k = k (s.nth n) := by
  rcases n with _|_|_|_|_|_|_|_|_|_|_|_|_|_|_|_|n <;> first
    | (exfalso; omega)
    | (cases h; rfl)
theorem gHiW_ok {n : Nat} (hn : n < 16) {g : GHi} (h : gHiW n = .mk g) (s : En) (k : Bk → Rs) : g s k = k (s.bk n) := by
  rcases n with _|_|_|_|_|_|_|_|_|_|_|_|_|_|_|_|n <;> first
    | (exfalso; omega)
    | (cases h; rfl)
theorem sLoW_ok {n : Nat} (hn : n < 16) {g : SLo} (h : sLoW n = .mk g) (v : AV) (s : Bk) (k : Bk → Rs) : g v s k = k (s.put n v) := by
  rcases n with _|_|_|_|_|_|_|_|_|_|_|_|_|_|_|_|n <;> first
    | (exfalso; omega)
    | (cases h; rfl)
theorem sHiW_ok {n : Nat} (hn : n < 16) {g : SHi} (h : sHiW n = .mk g) (f : SLo) (v : AV) (s : En) (k : En → Rs) : g f v s k = f v (s.bk n) fun y => k (s.putBk n y) := by
  rcases n with _|_|_|_|_|_|_|_|_|_|_|_|_|_|_|_|n <;> first
    | (exfalso; omega)
    | (cases h; rfl)

end
end Go.Ev
