/- What is known of a region whose order is open, ahead of its run. -/
import Derived.Test.YteijaoaiiddcgaaGreatDoorEvSnd3
namespace Go.Ev
open Go

theorem inMask_lt {m a b : Nat} (hm : m < 2 ^ a) (hb : a ≤ b) : inMask m b = false := by
  unfold inMask
  have h0 : m >>> b = 0 := by
    rw [Nat.shiftRight_eq_div_pow]
    exact Nat.div_eq_of_lt (Nat.lt_of_lt_of_le hm (Nat.pow_le_pow_right (by decide) hb))
  show Nat.beq ((m >>> b) &&& 1) 1 = false
  rw [h0]; rfl

theorem inMask_testBit (m i : Nat) : inMask m i = m.testBit i := by
  unfold inMask
  show Nat.beq ((m >>> i) &&& 1) 1 = _
  rw [Nat.testBit]
  rw [Nat.and_comm]
  have : (1 &&& (m >>> i)) = 0 ∨ (1 &&& (m >>> i)) = 1 := by
    rw [Nat.and_comm, Nat.and_one_is_mod]
    omega
  rcases this with h | h <;> rw [h] <;> rfl

theorem maskOf_fold (f : Nat → Edge → Nat) (hf : ∀ m x, f m x = if Region.binds .any x = true then m ||| (1 <<< x.on) else m) (l : List Edge) : ∀ (m i : Nat), inMask (l.foldl f m) i = (inMask m i || l.any fun x => Region.binds .any x && x.on == i) := by
  induction l with
  | nil => intro m i; simp
  | cons x l ih =>
    intro m i
    rw [List.foldl_cons, ih, List.any_cons, hf]
    cases hb : Region.binds .any x with
    | false => simp
    | true =>
      simp only [Bool.true_and, if_true]
      rw [← Bool.or_assoc]
      congr 1
      rw [inMask_testBit, inMask_testBit, Nat.testBit_or, Nat.one_shiftLeft, Nat.testBit_two_pow]
      congr 1

theorem inMask_maskOf (o : Oper) (i : Nat) : inMask (maskOf o) i = o.after.toList.any fun x => Region.binds .any x && x.on == i := by
  unfold maskOf
  rw [maskOf_fold _ (fun m x => by cases Region.binds .any x <;> rfl)]
  have : inMask 0 i = false := inMask_lt (a := 0) (by decide) (Nat.zero_le _)
  rw [this, Bool.false_or]

theorem maxRank_ge {m : Nat} {l : List Inf} {y : Inf} (hy : y ∈ l) (hm : inMask m y.i = true) : y.r ≤ maxRank m l := by
  induction l with
  | nil => cases hy
  | cons x l ih =>
    rw [maxRank]
    rcases List.mem_cons.1 hy with rfl | hy
    · rw [hm]; exact Nat.le_max_left _ _
    · have := ih hy
      split
      · exact Nat.le_trans this (Nat.le_max_right _ _)
      · exact this

theorem maxRank_le {m k : Nat} {l : List Inf} (h : ∀ y ∈ l, y.r ≤ k) : maxRank m l ≤ k := by
  induction l with
  | nil => exact Nat.zero_le _
  | cons x l ih =>
    rw [maxRank]
    have h1 := h x List.mem_cons_self
    have h2 := ih fun y hy => h y (List.mem_cons_of_mem _ hy)
    split
    · exact Nat.max_le.2 ⟨h1, h2⟩
    · exact h2

/-- The operations that have been looked at. -/
structure Seen (ops : List Oper) (i k : Nat) (acc : List Inf) : Prop where
  lt : ∀ x ∈ acc, x.i < i ∧ x.r ≤ k ∧ x.m = maskOf x.o ∧ x.m < 2 ^ x.i ∧ ops[x.i]? = some x.o
  eff : ∀ x ∈ acc, isEff x.o = true → 1 ≤ x.r
  pre : ∀ x ∈ acc, ∀ y ∈ acc, inMask x.m y.i = true → y.r ≤ x.r ∧ (isEff x.o = true → y.r < x.r)
  chain : ∀ x ∈ acc, isEff x.o = true → 2 ≤ x.r → ∃ y ∈ acc, inMask x.m y.i = true ∧ y.r + 1 = x.r
  one : ∀ x ∈ acc, ∀ y ∈ acc, isEff x.o = true → isEff y.o = true → x.r = y.r → x = y
  uniq : ∀ x ∈ acc, ∀ y ∈ acc, x.i = y.i → x = y
  full : ∀ j, j < i → ∃ x ∈ acc, x.i = j
  ranks : ∀ j, 1 ≤ j → j ≤ k → ∃ x ∈ acc, isEff x.o = true ∧ x.r = j
  sorted : acc.Pairwise fun x y => y.i < x.i
  zero : ∀ x ∈ acc, isEff x.o = false → x.r = 0 ∨ ∃ y ∈ acc, inMask x.m y.i = true ∧ y.r = x.r

theorem maxRank_some {m : Nat} : ∀ {l : List Inf}, maxRank m l = 0 ∨ ∃ y ∈ l, inMask m y.i = true ∧ y.r = maxRank m l
  | [] => .inl rfl
  | x :: l => by
    rw [maxRank]
    cases hm : inMask m x.i with
    | true =>
      simp only
      rcases Nat.le_total x.r (maxRank m l) with h | h
      · show Nat.max x.r (maxRank m l) = 0 ∨ _
        rw [show Nat.max x.r (maxRank m l) = maxRank m l from Nat.max_eq_right h]
        rcases maxRank_some (m := m) (l := l) with h1 | ⟨y, h1, h2, h3⟩
        · exact .inl h1
        · exact .inr ⟨y, by simp [h1], h2, h3⟩
      · show Nat.max x.r (maxRank m l) = 0 ∨ _
        rw [show Nat.max x.r (maxRank m l) = x.r from Nat.max_eq_left h]
        exact .inr ⟨x, by simp, hm, rfl⟩
    | false =>
      simp only
      rcases maxRank_some (m := m) (l := l) with h1 | ⟨y, h1, h2, h3⟩
      · exact .inl h1
      · exact .inr ⟨y, by simp [h1], h2, h3⟩

theorem Seen.add {ops : List Oper} {i k k' : Nat} {acc : List Inf} (S : Seen ops i k acc) (x : Inf) (hi : x.i = i) (hm : x.m = maskOf x.o) (hlt : x.m < 2 ^ i) (ho : ops[i]? = some x.o)
    (hk : (isEff x.o = true ∧ k' = k + 1 ∧ x.r = k + 1 ∧ maxRank x.m acc = k) ∨ (isEff x.o = false ∧ k' = k ∧ x.r = maxRank x.m acc)) :
    Seen ops (i + 1) k' (x :: acc) := by
  have hrk : ∀ y ∈ acc, y.r ≤ k := fun y hy => (S.lt y hy).2.1
  have hxk : x.r ≤ k' := by
    rcases hk with ⟨_, h2, h3, _⟩ | ⟨_, h2, h3⟩
    · omega
    · rw [h2, h3]; exact maxRank_le hrk
  have hkk : k ≤ k' := by rcases hk with ⟨_, h2, _⟩ | ⟨_, h2, _⟩ <;> omega
  have hold : ∀ y ∈ acc, inMask y.m x.i = false := fun y hy => by
    obtain ⟨h1, _, _, h4, _⟩ := S.lt y hy
    exact inMask_lt h4 (by omega)
  have hself : inMask x.m x.i = false := by rw [hi]; exact inMask_lt hlt (Nat.le_refl _)
  refine ⟨?_, ?_, ?_, ?_, ?_, ?_, ?_, ?_, ?_, ?_⟩
  · intro y hy
    rcases List.mem_cons.1 hy with rfl | hy
    · exact ⟨by omega, hxk, hm, by rw [hi]; exact hlt, by rw [hi]; exact ho⟩
    · obtain ⟨h1, h2, h3, h4, h5⟩ := S.lt y hy
      exact ⟨by omega, by omega, h3, h4, h5⟩
  · intro y hy he
    rcases List.mem_cons.1 hy with rfl | hy
    · rcases hk with ⟨_, _, h3, _⟩ | ⟨h1, _, _⟩
      · omega
      · rw [h1] at he; cases he
    · exact S.eff y hy he
  · intro y hy z hz hin
    rcases List.mem_cons.1 hy with rfl | hy1 <;> rcases List.mem_cons.1 hz with rfl | hz1
    · rw [hself] at hin; cases hin
    · rcases hk with ⟨h1, h2, h3, h4⟩ | ⟨h1, h2, h3⟩
      · have := hrk z hz1
        exact ⟨by omega, fun _ => by omega⟩
      · refine ⟨by rw [h3]; exact maxRank_ge hz1 hin, fun he => by rw [h1] at he; cases he⟩
    · rw [hold y hy1] at hin; cases hin
    · exact S.pre y hy1 z hz1 hin
  · intro y hy he h2
    rcases List.mem_cons.1 hy with rfl | hy
    · rcases hk with ⟨h1, h3, h4, h5⟩ | ⟨h1, _, _⟩
      · rcases maxRank_some (m := y.m) (l := acc) with h6 | ⟨z, h6, h7, h8⟩
        · omega
        · exact ⟨z, List.mem_cons_of_mem _ h6, h7, by omega⟩
      · rw [h1] at he; cases he
    · obtain ⟨z, h3, h4⟩ := S.chain y hy he h2
      exact ⟨z, by simp [h3], h4⟩
  · intro y hy z hz he1 he2 hr
    rcases List.mem_cons.1 hy with rfl | hy1 <;> rcases List.mem_cons.1 hz with rfl | hz1
    · rfl
    · rcases hk with ⟨_, _, h3, _⟩ | ⟨h1, _, _⟩
      · have := hrk z hz1; omega
      · rw [h1] at he1; cases he1
    · rcases hk with ⟨_, _, h3, _⟩ | ⟨h1, _, _⟩
      · have := hrk y hy1; omega
      · rw [h1] at he2; cases he2
    · exact S.one y hy1 z hz1 he1 he2 hr
  · intro y hy z hz hyz
    rcases List.mem_cons.1 hy with rfl | hy1 <;> rcases List.mem_cons.1 hz with rfl | hz1
    · rfl
    · have := (S.lt z hz1).1; omega
    · have := (S.lt y hy1).1; omega
    · exact S.uniq y hy1 z hz1 hyz
  · intro j hj
    by_cases hji : j = i
    · exact ⟨x, by simp, by omega⟩
    · obtain ⟨y, h1, h2⟩ := S.full j (by omega)
      exact ⟨y, by simp [h1], h2⟩
  · intro j h1 h2
    by_cases hjk : j ≤ k
    · obtain ⟨y, h3, h4⟩ := S.ranks j h1 hjk
      exact ⟨y, by simp [h3], h4⟩
    · rcases hk with ⟨h3, h4, h5, _⟩ | ⟨_, h4, _⟩
      · exact ⟨x, by simp, h3, by omega⟩
      · omega
  · rw [List.pairwise_cons]
    exact ⟨fun y hy => by have := (S.lt y hy).1; omega, S.sorted⟩
  · intro y hy he
    rcases List.mem_cons.1 hy with rfl | hy
    · rcases hk with ⟨h1, _⟩ | ⟨_, _, h3⟩
      · rw [h1] at he; cases he
      · rw [h3]
        rcases maxRank_some (m := y.m) (l := acc) with h4 | ⟨z, h4, h5, h6⟩
        · exact .inl h4
        · exact .inr ⟨z, by simp [h4], h5, h6⟩
    · rcases S.zero y hy he with h4 | ⟨z, h4, h5⟩
      · exact .inl h4
      · exact .inr ⟨z, by simp [h4], h5⟩

theorem infos_ok (ops : List Oper) : ∀ (l : List Oper) (i k : Nat) (acc : List Inf) (res : List Inf) (k' : Nat), (∀ j, l[j]? = ops[i + j]?) → infos l i k acc = some (res, k') → Seen ops i k acc → Seen ops (i + l.length) k' res
  | [], i, k, acc, res, k', _, h, S => by cases h; exact S
  | o :: l, i, k, acc, res, k', hl, h, S => by
    have ho : ops[i]? = some o := by have := hl 0; simpa using this.symm
    have hl' : ∀ j, l[j]? = ops[i + 1 + j]? := fun j => by
      have := hl (j + 1)
      rw [List.getElem?_cons_succ] at this
      rw [this]; congr 1; omega
    rw [infos, forceN_eq] at h
    cases hb : Nat.blt (maskOf o) (Nat.shiftLeft 1 i) with
    | false => rw [hb] at h; cases h
    | true =>
      rw [hb] at h; simp only at h
      have hlt : maskOf o < 2 ^ i := by
        rw [Nat.blt_eq] at hb
        have : Nat.shiftLeft 1 i = 2 ^ i := by show 1 <<< i = _; rw [Nat.one_shiftLeft]
        omega
      have hlen : i + (o :: l).length = i + 1 + l.length := by simp; omega
      rw [hlen]
      cases he : isEff o with
      | true =>
        rw [he] at h; simp only at h
        cases hc : Nat.beq (maxRank (maskOf o) acc) k with
        | false => rw [hc] at h; cases h
        | true =>
          rw [hc] at h; simp only [forceN_eq] at h
          refine infos_ok ops l (i + 1) (k + 1) _ res k' hl' h (S.add ⟨i, o, maskOf o, k + 1⟩ rfl rfl hlt ho (.inl ⟨he, rfl, rfl, ?_⟩))
          exact Nat.eq_of_beq_eq_true hc
      | false =>
        rw [he] at h; simp only [forceN_eq] at h
        exact infos_ok ops l (i + 1) k _ res k' hl' h (S.add ⟨i, o, maskOf o, maxRank (maskOf o) acc⟩ rfl rfl hlt ho (.inr ⟨he, rfl, rfl⟩))

theorem hiOf_le {i k : Nat} : ∀ {l : List (Inf × Nat)}, hiOf i k l ≤ k ∧ ∀ y ∈ l, inMask y.1.m i = true → hiOf i k l ≤ y.2
  | [] => ⟨Nat.le_refl _, fun y hy => by cases hy⟩
  | x :: l => by
    obtain ⟨h1, h2⟩ := hiOf_le (i := i) (k := k) (l := l)
    rw [hiOf]
    split
    · rename_i hm
      refine ⟨Nat.le_trans (Nat.min_le_right _ _) h1, fun y hy hin => ?_⟩
      rcases List.mem_cons.1 hy with rfl | hy
      · exact Nat.min_le_left _ _
      · exact Nat.le_trans (Nat.min_le_right _ _) (h2 y hy hin)
    · rename_i hm
      refine ⟨h1, fun y hy hin => ?_⟩
      rcases List.mem_cons.1 hy with rfl | hy
      · rw [hm] at hin; cases hin
      · exact h2 y hy hin

theorem hiOf_att {i k : Nat} : ∀ {l : List (Inf × Nat)}, hiOf i k l = k ∨ ∃ y ∈ l, inMask y.1.m i = true ∧ hiOf i k l = y.2
  | [] => .inl rfl
  | x :: l => by
    rw [hiOf]
    have ih := hiOf_att (i := i) (k := k) (l := l)
    split
    · rename_i hm
      rcases Nat.le_total x.2 (hiOf i k l) with h | h
      · right; exact ⟨x, List.mem_cons_self, hm, Nat.min_eq_left h⟩
      · rw [show Nat.min x.2 (hiOf i k l) = hiOf i k l from Nat.min_eq_right h]
        rcases ih with h1 | ⟨y, h1, h2⟩
        · exact .inl h1
        · exact .inr ⟨y, List.mem_cons_of_mem _ h1, h2⟩
    · rcases ih with h1 | ⟨y, h1, h2⟩
      · exact .inl h1
      · exact .inr ⟨y, List.mem_cons_of_mem _ h1, h2⟩

/-- The bounds that have been found. -/
structure Bnd (k : Nat) (acc : List (Inf × Nat)) : Prop where
  eff : ∀ x ∈ acc, isEff x.1.o = true → x.2 = x.1.r - 1
  le : ∀ x ∈ acc, isEff x.1.o = false → x.2 ≤ k
  pre : ∀ x ∈ acc, ∀ y ∈ acc, isEff x.1.o = false → inMask y.1.m x.1.i = true → x.2 ≤ y.2
  att : ∀ x ∈ acc, isEff x.1.o = false → x.2 = k ∨ ∃ y ∈ acc, inMask y.1.m x.1.i = true ∧ x.2 = y.2
  sorted : acc.Pairwise fun x y => x.1.i < y.1.i

theorem bounds_ok (k : Nat) : ∀ (l : List Inf) (acc : List (Inf × Nat)), (∀ x ∈ l, x.m < 2 ^ x.i) → l.Pairwise (fun x y => y.i < x.i) → (∀ x ∈ l, ∀ y ∈ acc, x.i < y.1.i) → Bnd k acc →
    Bnd k (bounds k l acc) ∧ (bounds k l acc).map (·.1) = l.reverse ++ acc.map (·.1)
  | [], acc, _, _, _, B => ⟨B, by simp [bounds]⟩
  | x :: l, acc, hm, hs, hlt, B => by
    rw [List.pairwise_cons] at hs
    have step : ∀ b, (isEff x.o = true → b = x.r - 1) → (isEff x.o = false → b = hiOf x.i k acc) → Bnd k ((x, b) :: acc) := by
      intro b h1 h2
      refine ⟨?_, ?_, ?_, ?_, ?_⟩
      · intro y hy he
        rcases List.mem_cons.1 hy with rfl | hy
        · exact h1 he
        · exact B.eff y hy he
      · intro y hy he
        rcases List.mem_cons.1 hy with rfl | hy
        · simp only; rw [h2 he]; exact hiOf_le.1
        · exact B.le y hy he
      · intro y hy z hz he hin
        rcases List.mem_cons.1 hy with rfl | hy <;> rcases List.mem_cons.1 hz with rfl | hz
        · rw [inMask_lt (hm x (by simp)) (Nat.le_refl _)] at hin; cases hin
        · simp only; rw [h2 he]; exact hiOf_le.2 z hz hin
        · have := hlt x (by simp) y hy
          rw [inMask_lt (hm x (by simp)) (Nat.le_of_lt this)] at hin; cases hin
        · exact B.pre y hy z hz he hin
      · intro y hy he
        rcases List.mem_cons.1 hy with rfl | hy
        · simp only; rw [h2 he]
          rcases hiOf_att (i := x.i) (k := k) (l := acc) with h3 | ⟨z, h3, h4⟩
          · exact .inl h3
          · exact .inr ⟨z, List.mem_cons_of_mem _ h3, h4⟩
        · rcases B.att y hy he with h3 | ⟨z, h3, h4⟩
          · exact .inl h3
          · exact .inr ⟨z, List.mem_cons_of_mem _ h3, h4⟩
      · rw [List.pairwise_cons]
        exact ⟨fun y hy => hlt x (by simp) y hy, B.sorted⟩
    have rest : ∀ b, Bnd k ((x, b) :: acc) → Bnd k (bounds k l ((x, b) :: acc)) ∧ (bounds k l ((x, b) :: acc)).map (·.1) = (x :: l).reverse ++ acc.map (·.1) := by
      intro b hb
      obtain ⟨h1, h2⟩ := bounds_ok k l ((x, b) :: acc) (fun y hy => hm y (by simp [hy])) hs.2 (by
        intro y hy z hz
        rcases List.mem_cons.1 hz with rfl | hz
        · exact hs.1 y hy
        · exact hlt y (by simp [hy]) z hz) hb
      exact ⟨h1, by rw [h2]; simp⟩
    rw [bounds]
    cases he : isEff x.o with
    | true =>
      simp only [forceN_eq]
      exact rest _ (step _ (fun _ => rfl) (fun h => by rw [he] at h; cases h))
    | false =>
      simp only [forceN_eq]
      exact rest _ (step _ (fun h => by rw [he] at h; cases h) (fun _ => rfl))

theorem stageOf_mem {j : Nat} : ∀ {l : List (Inf × Nat)} {x : Inf}, x ∈ stageOf j l ↔ (∃ b, (x, b) ∈ l) ∧ x.r = j
  | [], x => by simp [stageOf]
  | y :: l, x => by
    rw [stageOf]
    have ih := stageOf_mem (j := j) (l := l) (x := x)
    split
    · rename_i h
      have h := Nat.eq_of_beq_eq_true h
      rw [List.mem_cons, ih]
      constructor
      · rintro (rfl | ⟨⟨b, h1⟩, h2⟩)
        · exact ⟨⟨y.2, by simp⟩, h⟩
        · exact ⟨⟨b, by simp [h1]⟩, h2⟩
      · rintro ⟨⟨b, h1⟩, h2⟩
        rcases List.mem_cons.1 h1 with h1 | h1
        · left; exact congrArg (·.1) h1
        · right; exact ⟨⟨b, h1⟩, h2⟩
    · rename_i h
      have h := Nat.ne_of_beq_eq_false h
      rw [ih]
      constructor
      · rintro ⟨⟨b, h1⟩, h2⟩; exact ⟨⟨b, by simp [h1]⟩, h2⟩
      · rintro ⟨⟨b, h1⟩, h2⟩
        rcases List.mem_cons.1 h1 with h1 | h1
        · have := congrArg (·.1.r) h1; simp only at this; omega
        · exact ⟨⟨b, h1⟩, h2⟩

theorem stageOf_sorted {j : Nat} : ∀ {l : List (Inf × Nat)}, l.Pairwise (fun x y => x.1.i < y.1.i) → (stageOf j l).Pairwise fun x y => x.i < y.i
  | [], _ => List.Pairwise.nil
  | y :: l, h => by
    rw [List.pairwise_cons] at h
    rw [stageOf]
    split
    · rw [List.pairwise_cons]
      refine ⟨fun x hx => ?_, stageOf_sorted h.2⟩
      obtain ⟨⟨b, h1⟩, _⟩ := stageOf_mem.1 hx
      exact h.1 _ h1
    · exact stageOf_sorted h.2

theorem stagesOf_eq (all : List (Inf × Nat)) : ∀ (k : Nat) (acc : List (List Inf)), stagesOf all k acc = (List.range (k + 1)).map (fun j => stageOf j all) ++ acc
  | 0, acc => rfl
  | k + 1, acc => by
    rw [stagesOf, stagesOf_eq all k, List.range_succ (n := k + 1), List.map_append, List.append_assoc]
    rfl

end Go.Ev
