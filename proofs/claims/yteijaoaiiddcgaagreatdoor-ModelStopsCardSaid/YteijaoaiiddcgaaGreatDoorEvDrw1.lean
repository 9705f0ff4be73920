/- A region whose order is open: the plan, and the run by stages. -/
import Derived.Test.YteijaoaiiddcgaaGreatDoorEvDrw0
namespace Go.Ev
open Go

theorem writer_none {t : Nat} : ∀ {l : List (Inf × Nat)}, writer t l = none → ∀ y ∈ l, y.1.o.dst ≠ some t
  | [], _, y, hy => by cases hy
  | x :: l, h, y, hy => by
    rw [writer] at h
    rcases List.mem_cons.1 hy with rfl | hy
    · intro hd
      rw [hd] at h
      simp only [show Nat.beq t t = true from Nat.beq_refl t] at h
      cases h
    · cases hd : x.1.o.dst with
      | none => rw [hd] at h; exact writer_none h y hy
      | some d =>
        rw [hd] at h; simp only at h
        split at h
        · cases h
        · exact writer_none h y hy

theorem writer_some {t : Nat} : ∀ {l : List (Inf × Nat)} {y : Inf × Nat}, writer t l = some y → y ∈ l ∧ y.1.o.dst = some t
  | [], y, h => by cases h
  | x :: l, y, h => by
    rw [writer] at h
    cases hd : x.1.o.dst with
    | none =>
      rw [hd] at h
      obtain ⟨h1, h2⟩ := writer_some h
      exact ⟨List.mem_cons_of_mem _ h1, h2⟩
    | some d =>
      rw [hd] at h; simp only at h
      split at h
      · rename_i hb
        have := Nat.eq_of_beq_eq_true hb
        cases h
        exact ⟨List.mem_cons_self, by rw [hd, this]⟩
      · obtain ⟨h1, h2⟩ := writer_some h
        exact ⟨List.mem_cons_of_mem _ h1, h2⟩

/-- What is known of a region ahead of its run. -/
structure Plan (ops : Array Oper) (all : List (Inf × Nat)) (k : Nat) : Prop where
  mem : ∀ x ∈ all, x.1.m = maskOf x.1.o ∧ x.1.m < 2 ^ x.1.i ∧ ops[x.1.i]? = some x.1.o ∧ x.1.r ≤ k
  full : ∀ i, i < ops.size → ∃ x ∈ all, x.1.i = i
  uniq : ∀ x ∈ all, ∀ y ∈ all, x.1.i = y.1.i → x = y
  eff : ∀ x ∈ all, isEff x.1.o = true → 1 ≤ x.1.r
  pre : ∀ x ∈ all, ∀ y ∈ all, inMask x.1.m y.1.i = true → y.1.r ≤ x.1.r ∧ (isEff x.1.o = true → y.1.r < x.1.r)
  chain : ∀ x ∈ all, isEff x.1.o = true → 2 ≤ x.1.r → ∃ y ∈ all, inMask x.1.m y.1.i = true ∧ y.1.r + 1 = x.1.r
  one : ∀ x ∈ all, ∀ y ∈ all, isEff x.1.o = true → isEff y.1.o = true → x.1.r = y.1.r → x = y
  ranks : ∀ j, 1 ≤ j → j ≤ k → ∃ x ∈ all, isEff x.1.o = true ∧ x.1.r = j
  zero : ∀ x ∈ all, isEff x.1.o = false → x.1.r = 0 ∨ ∃ y ∈ all, inMask x.1.m y.1.i = true ∧ y.1.r = x.1.r
  bnd : Bnd k all
  alone : ∀ x ∈ all, ∀ y ∈ all, ∀ d, x.1.o.dst = some d → y.1.o.dst = some d → x = y
  dsts : all.Pairwise (fun x y => ∀ d, x.1.o.dst = some d → y.1.o.dst ≠ some d)
  reads : ∀ x ∈ all, readsOk x.1 all x.1.o.op.operands.toList = true
  guard : ∀ x ∈ all, ∀ g b, x.1.o.guard = some (g, b) → inMask x.1.m g = true

theorem allOk_ok {all : List (Inf × Nat)} : ∀ {l : List (Inf × Nat)}, allOk all l = true →
    l.Pairwise (fun x y => ∀ d, x.1.o.dst = some d → y.1.o.dst ≠ some d) ∧
    ∀ x ∈ l, readsOk x.1 all x.1.o.op.operands.toList = true ∧ ∀ g b, x.1.o.guard = some (g, b) → inMask x.1.m g = true
  | [], _ => ⟨List.Pairwise.nil, fun x hx => by cases hx⟩
  | x :: l, h => by
    rw [allOk] at h
    split at h
    · rename_i hc
      simp only [Bool.and_eq_true] at hc
      obtain ⟨h1, h2⟩ := allOk_ok h
      rw [List.pairwise_cons]
      refine ⟨⟨fun y hy d hd => ?_, h1⟩, fun y hy => ?_⟩
      · have h3 := hc.1.1
        rw [hd] at h3
        unfold aloneOk at h3
        simp only at h3
        cases hw : writer d l with
        | none => exact writer_none hw y hy
        | some z => rw [hw] at h3; cases h3
      · rcases List.mem_cons.1 hy with rfl | hy
        · refine ⟨hc.1.2, fun g b hg => ?_⟩
          have := hc.2
          rw [hg] at this
          exact this
        · exact h2 y hy
    · cases h

theorem sorted_uniq : ∀ {l : List (Inf × Nat)}, l.Pairwise (fun x y => x.1.i < y.1.i) → ∀ x ∈ l, ∀ y ∈ l, x.1.i = y.1.i → x = y
  | [], _, x, hx, _, _, _ => by cases hx
  | z :: l, h, x, hx, y, hy, e => by
    rw [List.pairwise_cons] at h
    rcases List.mem_cons.1 hx with rfl | hx1 <;> rcases List.mem_cons.1 hy with rfl | hy1
    · rfl
    · have := h.1 y hy1; omega
    · have := h.1 x hx1; omega
    · exact sorted_uniq h.2 x hx1 y hy1 e

theorem pairwise_uniq {α : Type} {R : α → α → Prop} : ∀ {l : List α}, l.Pairwise R → ∀ x ∈ l, ∀ y ∈ l, (¬ R x y) → (¬ R y x) → x = y
  | [], _, x, hx, _, _, _, _ => by cases hx
  | z :: l, h, x, hx, y, hy, e1, e2 => by
    rw [List.pairwise_cons] at h
    rcases List.mem_cons.1 hx with rfl | hx1 <;> rcases List.mem_cons.1 hy with rfl | hy1
    · rfl
    · exact absurd (h.1 y hy1) e1
    · exact absurd (h.1 x hx1) e2
    · exact pairwise_uniq h.2 x hx1 y hy1 e1 e2

theorem plan_ok {ops : Array Oper} {all : List (Inf × Nat)} {stages : List (List Inf)} (h : plan ops = some (all, stages)) :
    ∃ k, Plan ops all k ∧ stages = (List.range (k + 1)).map (fun j => stageOf j all) := by
  unfold plan at h
  cases hi : infos ops.toList 0 0 [] with
  | none => rw [hi] at h; cases h
  | some lk =>
    obtain ⟨l, k⟩ := lk
    rw [hi] at h; simp only at h
    cases ha : allOk (bounds k l []) (bounds k l []) with
    | false => rw [ha] at h; cases h
    | true =>
      rw [ha] at h
      simp only [Option.some.injEq, Prod.mk.injEq] at h
      obtain ⟨h1, h2⟩ := h
      rw [h1] at ha h2
      have S := infos_ok ops.toList ops.toList 0 0 [] l k (fun j => by rw [Nat.zero_add]) hi
        ⟨by simp, by simp, by simp, by simp, by simp, by simp, fun j hj => by omega, fun j h1 h2 => by omega, List.Pairwise.nil, by simp⟩
      rw [Nat.zero_add] at S
      obtain ⟨B, hmap⟩ := bounds_ok k l [] (fun x hx => (S.lt x hx).2.2.2.1) S.sorted (fun x _ y hy => by cases hy) ⟨by simp, by simp, by simp, by simp, List.Pairwise.nil⟩
      rw [h1] at B hmap
      simp only [List.map_nil, List.append_nil] at hmap
      have hin : ∀ x ∈ all, x.1 ∈ l := fun x hx => by
        have : x.1 ∈ all.map (·.1) := List.mem_map_of_mem hx
        rw [hmap] at this
        exact List.mem_reverse.1 this
      have hout : ∀ x ∈ l, ∃ y ∈ all, y.1 = x := fun x hx => by
        have : x ∈ all.map (·.1) := by rw [hmap]; exact List.mem_reverse.2 hx
        obtain ⟨y, h3, h4⟩ := List.mem_map.1 this
        exact ⟨y, h3, h4⟩
      have huniq := sorted_uniq B.sorted
      obtain ⟨hA, hB⟩ := allOk_ok ha
      refine ⟨k, ⟨?_, ?_, huniq, ?_, ?_, ?_, ?_, ?_, ?_, B, ?_, hA, fun x hx => (hB x hx).1, fun x hx => (hB x hx).2⟩, ?_⟩
      · intro x hx
        obtain ⟨h3, h4, h5, h6, h7⟩ := S.lt x.1 (hin x hx)
        exact ⟨h5, h6, by rw [Array.getElem?_toList] at h7; exact h7, h4⟩
      · intro i hi
        obtain ⟨x, h3, h4⟩ := S.full i (by simpa using hi)
        obtain ⟨y, h5, rfl⟩ := hout x h3
        exact ⟨y, h5, h4⟩
      · exact fun x hx => S.eff x.1 (hin x hx)
      · exact fun x hx y hy => S.pre x.1 (hin x hx) y.1 (hin y hy)
      · intro x hx he h2
        obtain ⟨y, h3, h4, h5⟩ := S.chain x.1 (hin x hx) he h2
        obtain ⟨z, h7, rfl⟩ := hout y h3
        exact ⟨z, h7, h4, h5⟩
      · intro x hx y hy h3 h4 h5
        have := S.one x.1 (hin x hx) y.1 (hin y hy) h3 h4 h5
        exact huniq x hx y hy (by rw [this])
      · intro j h3 h4
        obtain ⟨x, h5, h6⟩ := S.ranks j h3 h4
        obtain ⟨z, h7, rfl⟩ := hout x h5
        exact ⟨z, h7, h6⟩
      · intro x hx he
        rcases S.zero x.1 (hin x hx) he with h3 | ⟨y, h3, h4⟩
        · exact .inl h3
        · obtain ⟨z, h7, rfl⟩ := hout y h3
          exact .inr ⟨z, h7, h4⟩
      · intro x hx y hy d h3 h4
        exact pairwise_uniq hA x hx y hy (fun q => q d h3 h4) (fun q => q d h4 h3)
      · rw [← h2, stagesOf_eq, List.append_nil]

section
variable {ops : Array Oper} {all : List (Inf × Nat)} {k : Nat}

theorem Plan.mask (p : Plan ops all k) {x : Inf × Nat} (hx : x ∈ all) {i : Nat} (hi : inMask x.1.m i = true) : i < x.1.i := by
  rcases Nat.lt_or_ge i x.1.i with h | h
  · exact h
  · rw [inMask_lt (p.mem x hx).2.1 h] at hi; cases hi

theorem Plan.lt (p : Plan ops all k) {x : Inf × Nat} (hx : x ∈ all) : x.1.i < ops.size := by
  have := (p.mem x hx).2.2.1
  exact (Array.getElem?_eq_some_iff.1 this).1

theorem Plan.below (p : Plan ops all k) : ∀ (n : Nat) (x : Inf × Nat), x ∈ all → x.1.i ≤ n → isEff x.1.o = false → 1 ≤ x.1.r → ∃ y ∈ all, isEff y.1.o = true ∧ y.1.r = x.1.r ∧ y.1.i < x.1.i := by
  intro n
  induction n with
  | zero =>
    intro x hx hn he hr
    rcases p.zero x hx he with h | ⟨y, h1, h2, h3⟩
    · omega
    · have := p.mask hx h2; omega
  | succ n ih =>
    intro x hx hn he hr
    rcases p.zero x hx he with h | ⟨y, h1, h2, h3⟩
    · omega
    · have h4 := p.mask hx h2
      cases hey : isEff y.1.o with
      | true => exact ⟨y, h1, hey, h3, h4⟩
      | false =>
        obtain ⟨z, h5, h6, h7, h8⟩ := ih y h1 (by omega) hey (by omega)
        exact ⟨z, h5, h6, by omega, by omega⟩

theorem mem_stage {j : Nat} {x : Inf} : x ∈ stageOf j all ↔ (∃ b, (x, b) ∈ all) ∧ x.r = j := stageOf_mem

/-- The stages from one on. -/
theorem Plan.head (p : Plan ops all k) {j : Nat} (h1 : 1 ≤ j) (h2 : j ≤ k) : ∃ x l, stageOf j all = x :: l ∧ isEff x.o = true ∧ ∀ y ∈ l, isEff y.o = false := by
  obtain ⟨e, h3, h4, h5⟩ := p.ranks j h1 h2
  have hs := stageOf_sorted (j := j) p.bnd.sorted
  have hm : e.1 ∈ stageOf j all := mem_stage.2 ⟨⟨e.2, h3⟩, h5⟩
  cases hl : stageOf j all with
  | nil => rw [hl] at hm; cases hm
  | cons x l =>
    rw [hl] at hs hm
    rw [List.pairwise_cons] at hs
    have hx : x ∈ stageOf j all := by rw [hl]; exact List.mem_cons_self
    obtain ⟨⟨b, hb⟩, hxr⟩ := mem_stage.1 hx
    have hex : isEff x.o = true := by
      cases he : isEff x.o with
      | true => rfl
      | false =>
        obtain ⟨y, g1, g2, g3, g4⟩ := p.below _ (x, b) hb (Nat.le_refl _) he (by simp only; omega)
        have : y ∈ all → y.1 ∈ stageOf j all := fun _ => mem_stage.2 ⟨⟨y.2, g1⟩, by simp only at g3; omega⟩
        have := this g1
        rw [hl] at this
        rcases List.mem_cons.1 this with h | h
        · rw [h] at g4; simp only at g4; omega
        · have := hs.1 _ h; simp only at g4; omega
    refine ⟨x, l, rfl, hex, fun y hy => ?_⟩
    cases he : isEff y.o with
    | false => rfl
    | true =>
      have hy' : y ∈ stageOf j all := by rw [hl]; exact List.mem_cons_of_mem _ hy
      obtain ⟨⟨b', hb'⟩, hyr⟩ := mem_stage.1 hy'
      have := p.one _ hb _ hb' hex he (by simp only; omega)
      have h6 := hs.1 y hy
      have h7 := congrArg (fun q : Inf × Nat => q.1.i) this
      simp only at h7; omega

theorem Plan.still (p : Plan ops all k) : ∀ x ∈ stageOf 0 all, isEff x.o = false := by
  intro x hx
  obtain ⟨⟨b, hb⟩, hxr⟩ := mem_stage.1 hx
  cases he : isEff x.o with
  | false => rfl
  | true => have := p.eff _ hb he; simp only at this; omega

end
end Go.Ev
