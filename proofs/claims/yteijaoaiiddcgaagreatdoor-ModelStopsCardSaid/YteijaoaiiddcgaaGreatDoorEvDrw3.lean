/- A block that stands in memory ahead of its making. -/
import Derived.Test.YteijaoaiiddcgaaGreatDoorEvDrw2
namespace Go.Ev
open Go

mutual
theorem AV.all_and {p q : Pos → Prop} : ∀ v : AV, v.all p → v.all q → v.all fun b => p b ∧ q b
  | .undef, _, _ | .bool _, _, _ | .int _ _, _, _ | .str _ _, _, _ | .nilp, _, _ | .nils, _, _ | .nilm, _, _ | .nilf, _, _ | .nili, _, _ | .sym _, _, _ => trivial
  | .ptr b _, h, h' | .slice b _ _ _, h, h' | .sliceU b _ _ _, h, h' | .sliceZ b _ _ _ _, h, h' | .map b, h, h' => ⟨h, h'⟩
  | .func _ f c, h, h' => ⟨AV.allL_and f h.1 h'.1, AV.allL_and c h.2 h'.2⟩
  | .iface _ v, h, h' => AV.all_and v h h'
  | .agg l, h, h' => ⟨AV.allL_and l h.1 h'.1, h.2⟩
  | .tup l, h, h' => AV.allL_and l h h'
theorem AV.allL_and {p q : Pos → Prop} : ∀ l : List AV, AV.allL p l → AV.allL q l → AV.allL (fun b => p b ∧ q b) l
  | [], _, _ => trivial
  | v :: l, h, h' => ⟨AV.all_and v h.1 h'.1, AV.allL_and l h.2 h'.2⟩
end

theorem Obj.all_and {p q : Pos → Prop} : ∀ o : Obj, o.all p → o.all q → o.all fun b => p b ∧ q b
  | .row _ r _ _ _, h, h' => ⟨AV.allL_and r.toList h.1 h'.1, h.2⟩
  | .map _, h, h' => fun x hx => ⟨AV.all_and _ (h x hx).1 (h' x hx).1, AV.all_and _ (h x hx).2 (h' x hx).2⟩
  | .iter (some m) _ _ _, h, h' => ⟨h, h'⟩
  | .iter none _ _ _, _, _ => trivial
  | .bag _, _, _ => trivial
  | .dead, _, _ => trivial

section
variable {σ : Nat → Value} {P : Program} {gv : Nat → Option Pos} {c : Cx} {h : Tr Obj} {nx : Pos} {w : World}

/-- Memory may hold more than what is known. -/
theorem Rel.grown {h' : Tr Obj} {nx' : Pos} (R : Rel σ P gv c h nx w) (g : Grow h nx h' nx') : Rel σ P gv c h' nx' w where
  lt := fun b hb => Nat.lt_of_lt_of_le (R.lt b hb) g.le
  le := R.le
  obj := fun b o hb ho => R.obj b o hb (by rw [← g.same b (R.lt b hb)]; exact ho)
  inj := fun b b' o o' hb hb' ho ho' => R.inj b b' o o' hb hb' (by rw [← g.same b (R.lt b hb)]; exact ho) (by rw [← g.same b' (R.lt b' hb')]; exact ho')
  closed := fun b o hb ho => R.closed b o hb (by rw [← g.same b (R.lt b hb)]; exact ho)
  dom := g.dom R.dom
  glob := R.glob
  sc := R.sc

theorem Ext.grown {c' : Cx} {h' h2 : Tr Obj} {nx' nx2 : Pos} {w' : World} (E : Ext c h nx w c' h' nx' w') (g : Grow h' nx' h2 nx2) : Ext c h nx w c' h2 nx2 w' where
  grow := Nat.le_trans E.grow g.le
  sub := E.sub
  agree := E.agree
  fresh := E.fresh
  frame := fun b hb hn => by rw [g.same b (Nat.lt_of_lt_of_le hb E.grow), E.frame b hb hn]
  size := E.size
  heap := E.heap
  new := E.new
  os := E.os
  output := E.output
  tape := E.tape

/-- A context in which one block's number stands for another one's. -/
def Cx.as (c c1 : Cx) (u n : Pos) : Cx := { ρ := fun b => if b = u then c1.ρ n else c1.ρ b, κ := fun b => if b = u then c1.κ n else c1.κ b, L := fun b => b = u ∨ c.L b }

theorem Rel.rename {c1 : Cx} {u : Pos} {ob : Obj} {w1 : World} (R : Rel σ P gv c h nx w) (hu : ¬ c.L u) (hlt : u.num < nx.num) (hg : h.get u = some ob) (hob : ob.all c.L)
    (R1 : Rel σ P gv c1 (Tr.set nx ob h) nx.succ w1) (X1 : Ext c h nx w c1 (Tr.set nx ob h) nx.succ w1) (hn : c1.L nx) :
    Rel σ P gv (c.as c1 u nx) h nx w1 ∧ Cx.agree c.L c (c.as c1 u nx) := by
  have hne : ∀ b, c.L b → b ≠ u := fun b hb e => hu (e ▸ hb)
  have hnx : ∀ b, b.num < nx.num → b ≠ nx := fun b hb e => by rw [e] at hb; omega
  have hget : ∀ b, c.L b → (Tr.set nx ob h).get b = h.get b := fun b hb => by rw [Tr.get_set, if_neg (hnx b (R.lt b hb))]
  have hat : ∀ b, c.L b → (c.as c1 u nx).ρ b = c1.ρ b ∧ (c.as c1 u nx).κ b = c1.κ b := fun b hb => ⟨if_neg (hne b hb), if_neg (hne b hb)⟩
  have hau : (c.as c1 u nx).ρ u = c1.ρ nx ∧ (c.as c1 u nx).κ u = c1.κ nx := ⟨if_pos rfl, if_pos rfl⟩
  have hag : Cx.agree c.L c1 (c.as c1 u nx) := hat
  have hag0 : Cx.agree c.L c (c.as c1 u nx) := fun b hb => ⟨(hat b hb).1.trans (X1.agree b hb).1, (hat b hb).2.trans (X1.agree b hb).2⟩
  refine ⟨⟨?_, ?_, ?_, ?_, ?_, R.dom, ?_, R.sc⟩, hag0⟩
  · rintro b (rfl | hb)
    · exact hlt
    · exact R.lt b hb
  · rintro b (rfl | hb)
    · rw [hau.1]; exact R1.le nx hn
    · rw [(hat b hb).1]; exact R1.le b (X1.sub b hb)
  · rintro b o (rfl | hb) ho
    · rw [hg] at ho; cases ho
      have h1 := R1.obj nx ob hn (by rw [Tr.get_set, if_pos rfl])
      rw [hau.1]
      -- the same object under another number
      cases ob with
      | row elem r tail frz plain =>
        obtain ⟨rest, fz, q1, q2, q3, q4, q5⟩ := h1
        refine ⟨rest, fz, ?_, q2, q3, q4, ?_⟩
        · rw [AV.concL_agree hag _ hob.1]; exact q1
        · intro ht; rw [hau.2]; exact q5 ht
      | map es => simp only [Obj.is] at h1 ⊢; rw [entriesOf_agree hag es hob]; exact h1
      | iter m since seen stepped =>
        simp only [Obj.is] at h1 ⊢
        cases m with
        | none => exact h1
        | some m => simp only [Option.map_some] at h1 ⊢; rw [(hat m hob).1]; exact h1
      | bag ks => exact h1
      | dead => trivial
    · have h1 := R1.obj b o (X1.sub b hb) (by rw [hget b hb]; exact ho)
      rw [(hat b hb).1]
      exact Obj.is_agree hag hb (R.closed b o hb ho) h1
  · rintro b b' o o' (rfl | hb) (rfl | hb') ho ho' hl hl' he
    · rfl
    · rw [hg] at ho; cases ho
      rw [hau.1, (hat b' hb').1] at he
      have := R1.inj nx b' ob o' hn (X1.sub b' hb') (by rw [Tr.get_set, if_pos rfl]) (by rw [hget b' hb']; exact ho') hl hl' he
      exact absurd this.symm (hnx b' (R.lt b' hb'))
    · rw [hg] at ho'; cases ho'
      rw [hau.1, (hat b hb).1] at he
      have := R1.inj b nx o ob (X1.sub b hb) hn (by rw [hget b hb]; exact ho) (by rw [Tr.get_set, if_pos rfl]) hl hl' he
      exact absurd this (hnx b (R.lt b hb))
    · rw [(hat b hb).1, (hat b' hb').1] at he
      exact R1.inj b b' o o' (X1.sub b hb) (X1.sub b' hb') (by rw [hget b hb]; exact ho) (by rw [hget b' hb']; exact ho') hl hl' he
  · rintro b o (rfl | hb) ho
    · rw [hg] at ho; cases ho
      exact Obj.all_mono (fun x hx => .inr hx) _ hob
    · exact Obj.all_mono (fun x hx => .inr hx) _ (R.closed b o hb ho)
  · intro g b hgb
    obtain ⟨h1, h2⟩ := R.glob g b hgb
    exact ⟨.inr h1, (hag0 b h1).1.trans h2⟩

/-- The same, of what has become since a start. -/
theorem Ext.rename {c0 c1 : Cx} {h0 : Tr Obj} {nx0 : Pos} {w0 : World} {u : Pos} {ob : Obj} {w1 : World} (E : Ext c0 h0 nx0 w0 c h nx w) (hu0 : nx0.num ≤ u.num) (hc0 : ∀ b, c0.L b → b ≠ u) (hu : ¬ c.L u)
    (R : Rel σ P gv c h nx w) (X1 : Ext c h nx w c1 (Tr.set nx ob h) nx.succ w1) (hn : c1.L nx) : Ext c0 h0 nx0 w0 (c.as c1 u nx) h nx w1 := by
  have T := E.trans X1
  have hne : ∀ b, c.L b → b ≠ u := fun b hb e => hu (e ▸ hb)
  have hat : ∀ b, b ≠ u → (c.as c1 u nx).ρ b = c1.ρ b ∧ (c.as c1 u nx).κ b = c1.κ b := fun b hb => ⟨if_neg hb, if_neg hb⟩
  have hau : (c.as c1 u nx).ρ u = c1.ρ nx ∧ (c.as c1 u nx).κ u = c1.κ nx := ⟨if_pos rfl, if_pos rfl⟩
  have hn0 : ¬ c.L nx := fun hh => by have := R.lt nx hh; omega
  refine ⟨E.grow, fun b hb => .inr (E.sub b hb), fun b hb => ?_, ?_, fun b hb hnb => E.frame b hb hnb, T.size, T.heap, ?_, T.os, T.output, T.tape⟩
  · have h1 := hat b (hc0 b hb)
    have h2 := T.agree b hb
    exact ⟨h1.1.trans h2.1, h1.2.trans h2.2⟩
  · rintro b (rfl | hb) hnb
    · exact hu0
    · exact E.fresh b hb hnb
  · rintro b (rfl | hb) hnb
    · rw [hau.1]
      exact T.new nx hn fun hh => hn0 (E.sub nx hh)
    · rw [(hat b (hne b hb)).1]
      exact T.new b (X1.sub b hb) hnb

/-- A block's making, where the block stands in memory already. -/
theorem alloc_at {ρ : Operand → Value} {o : Oper} (ho : isAlloc o = true) {xs : List AV} (hv : Vals σ c ρ o.op.operands.toList xs) (R : Rel σ P gv c h nx w) {mk : Pos → AV} {ob : Obj} (hmk : Mk mk)
    (hs : ∀ h nx, evS P o xs h nx = .val (mk nx) (Tr.set nx ob h) nx.succ) {u : Pos} (hu : ¬ c.L u) (hlt : u.num < nx.num) (hg : h.get u = some ob)
    {c0 : Cx} {h0 : Tr Obj} {nx0 : Pos} {w0 : World} (E : Ext c0 h0 nx0 w0 c h nx w) (hu0 : nx0.num ≤ u.num) (hc0 : ∀ b, c0.L b → b ≠ u) :
    ∃ n c2 w', (execOp ρ o).run P w = .ok n w' ∧ NextIs n ((mk u).conc σ c2) ∧ Rel σ P gv c2 h nx w' ∧ Ext c0 h0 nx0 w0 c2 h nx w' ∧ Cx.agree c.L c c2 ∧ (∀ b, c2.L b ↔ b = u ∨ c.L b) ∧ (mk u).all c2.L := by
  have h1 := evS_ok (σ := σ) hv R
  rw [hs] at h1
  obtain ⟨n, c1, w1, g1, g2, g3, g4, g5⟩ := h1
  have hn : c1.L nx := (hmk.all nx _).1 g5
  have R' : Rel σ P gv c h nx.succ w := R.grown ⟨by rw [Pos.num_succ]; omega, fun _ _ => rfl, fun d b hb => d b (by rw [Pos.num_succ] at hb; omega)⟩
  have h2 := evS_ok (σ := σ) hv R'
  rw [hs] at h2
  obtain ⟨_, c3, _, _, _, k3, k4, k5⟩ := h2
  have ha1 : ob.all c1.L := g3.closed nx ob hn (by rw [Tr.get_set, if_pos rfl])
  have hn3 : c3.L nx.succ := (hmk.all _ _).1 k5
  have ha3 : ob.all c3.L := k3.closed nx.succ ob hn3 (by rw [Tr.get_set, if_pos rfl])
  have hob : ob.all c.L := by
    refine Obj.all_mono ?_ _ (Obj.all_and ob ha1 ha3)
    rintro b ⟨b1, b3⟩
    rcases Classical.em (c.L b) with hb | hb
    · exact hb
    · have q1 := g3.lt b b1
      have q3 := k4.fresh b b3 hb
      omega
  obtain ⟨r1, r2⟩ := R.rename hu hlt hg hob g3 g4 hn
  refine ⟨n, c.as c1 u nx, w1, g1, ?_, r1, E.rename hu0 hc0 hu R g4 hn, r2, fun b => Iff.rfl, (hmk.all u _).2 (.inl rfl)⟩
  rw [hmk.conc σ c1 (c.as c1 u nx) nx u (if_pos rfl)]
  exact g2

end
end Go.Ev
