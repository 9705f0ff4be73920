/- A function's rest, from a statement on; what is known of two functions, whole. -/
import Derived.Test.YteijaoaiiddcgaaGreatDoorEvW0
import Derived.Test.YteijaoaiiddcgaaGreatDoorEvLiv0
namespace Go.Ev
open Go

section
variable {σ : Nat → Value} {P : Program} {gv : Nat → Option Pos} {c : Cx} {h : Tr Obj} {nx : Pos} {w : World}

theorem Rel.below {w' : World} (R : Rel σ P gv c h nx w) (hb : RowKit.Below w.heap.size w w') : Rel σ P gv c h nx w' ∧ Ext c h nx w c h nx w' := by
  have hat : ∀ b, c.L b → w'.heap[c.ρ b]? = w.heap[c.ρ b]? := fun b hL => hb.block _ (R.le b hL)
  exact ⟨⟨R.lt, fun b hL => Nat.lt_of_lt_of_le (R.le b hL) hb.size, fun b o hL ho => by rw [hat b hL]; exact R.obj b o hL ho, R.inj, R.closed, R.dom, R.glob, R.sc⟩,
    ⟨Nat.le_refl _, fun _ h => h, fun _ _ => ⟨rfl, rfl⟩, fun _ h1 h2 => absurd h1 h2, fun _ _ _ => rfl, hb.size, fun i hi _ => hb.block i hi, fun _ h1 h2 => absurd h1 h2, hb.os, hb.output, hb.tape⟩⟩

end
end Go.Ev

namespace Go.Proofs.YteijaoaiiddcgaaGreatDoor
open Go Go.Ev Go.RowKit

/-- The chapter's example, whole. -/
noncomputable def sumLives : List AV → Tr Ev.Obj → Pos → Rs := fun xs h nx => match xs with
  | [] => .val (.bool true) h nx
  | _ => .fail

/-- scope's with, whole. -/
noncomputable def sumWith : List AV → Tr Ev.Obj → Pos → Rs := fun xs h nx => match xs with
  | [.map b, .str n c] => match h.get b with
    | some (.bag ks) => newK (.bag ((n, c) :: ks)) h nx fun h' nx' => .val (.map nx) h' nx'
    | some (.map []) => newK (.bag [(n, c)]) h nx fun h' nx' => .val (.map nx) h' nx'
    | _ => .fail
  | _ => .fail

/-- The functions that are known whole. -/
noncomputable def sumW : FuncId → Option (List AV → Tr Ev.Obj → Pos → Rs) := fun f => match Nat.beq f 9 with
  | true => some sumLives
  | false => match Nat.beq f 36 with
    | true => some sumWith
    | false => none

theorem bag_texts {l : List MapEntry} {k : Nat} {ks : List (Nat × Nat)} (B : BagOk l k ks) : Texts l k fun t => ∃ q ∈ ks, t = textOf q.1 q.2 :=
  ⟨B.vals, B.born, fun e he => by obtain ⟨q, h1, h2⟩ := B.keys e he; exact ⟨_, ⟨q, h1, rfl⟩, h2⟩, by rintro t ⟨q, h1, rfl⟩; exact B.all q h1, B.apart⟩

theorem texts_bag {l : List MapEntry} {k : Nat} {ks : List (Nat × Nat)} {n c : Nat} (T : Texts l k fun t => t = textOf n c ∨ ∃ q ∈ ks, t = textOf q.1 q.2) : BagOk l k ((n, c) :: ks) := by
  refine ⟨T.vals, T.born, fun e he => ?_, fun q hq => ?_, T.apart⟩
  · obtain ⟨t, h1, h2⟩ := T.keys e he
    rcases h1 with rfl | ⟨q, h1, rfl⟩
    · exact ⟨_, List.mem_cons_self, h2⟩
    · exact ⟨q, List.mem_cons_of_mem _ h1, h2⟩
  · rcases List.mem_cons.1 hq with rfl | hq
    · exact T.all _ (.inl rfl)
    · exact T.all _ (.inr ⟨q, hq, rfl⟩)

theorem with_calls {σ : Nat → Value} {c : Cx} {h : Tr Ev.Obj} {nx : Pos} {w : World} (R : Rel σ Tryz.prog noGlobal c h nx w) {b : Pos} (hb : c.L b) {ks : List (Nat × Nat)} {l : List MapEntry} {k : Nat}
    (ho : w.heap[c.ρ b]? = some (.map l.toArray k)) (B : BagOk l k ks) (n d : Nat) :
    Calls Tryz.prog 36 (AV.concL σ c [.map b, .str n d]).toArray w (CallPost σ Tryz.prog noGlobal (.map nx) (Tr.set nx (.bag ((n, d) :: ks)) h) nx.succ c h nx w) := by
  refine (with_some (c.ρ b) l k _ (textOf n d) w ho (bag_texts B)).mono ?_
  rintro e w' ⟨rfl, ⟨l', k', h1, h2⟩, h3, h4⟩
  obtain ⟨R1, X1⟩ := R.add w.heap.size 0 (.bag ((n, d) :: ks)) w' (.inl rfl) (fun b' _ hb' _ _ => Nat.ne_of_lt (R.le b' hb')) h4.size h3 (fun j hj _ => h4.block j hj) ⟨l', k', h1, texts_bag h2⟩ trivial h4.os h4.output h4.tape
  exact ⟨_, by simp [AV.conc, Cx.add], R1, X1, .inl rfl⟩

theorem lib_ok (σ : Nat → Value) : LibOk σ Tryz.prog noGlobal ⟨exA 119 184, sumW⟩ := by
  refine ⟨ext_ok σ, ?_⟩
  intro f s args c h nx w v h' nx' hs he R ha
  simp only [sumW] at hs
  split at hs
  · rename_i hf
    have := Nat.eq_of_beq_eq_true hf
    subst this
    cases hs
    unfold sumLives at he
    split at he
    · cases he
      refine (lives_calls w).mono ?_
      rintro e w' ⟨rfl, hb⟩
      obtain ⟨R', X'⟩ := R.below hb
      exact ⟨c, rfl, R', X', trivial⟩
    · cases he
  · split at hs
    · rename_i hf
      have := Nat.eq_of_beq_eq_true hf
      subst this
      cases hs
      unfold sumWith at he
      split at he
      · rename_i b n d
        split at he
        · rename_i ks hg
          rw [newK_eq] at he
          cases he
          obtain ⟨l, k, h1, h2⟩ := R.obj b _ ha.1 hg
          exact with_calls R ha.1 h1 h2 n d
        · rename_i hg
          rw [newK_eq] at he
          cases he
          have h1 := R.obj b _ ha.1 hg
          exact with_calls R ha.1 (l := []) (k := 0) (ks := []) h1 ⟨by simp, by simp, by simp, by simp, by simp⟩ n d
        · cases he
      · cases he
    · cases hs

end Go.Proofs.YteijaoaiiddcgaaGreatDoor
