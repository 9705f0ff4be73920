/- scope's (in).with: a map of just the texts that were there and one more; no condition but that the map's values are all true. -/
import Derived.Test.YteijaoaiiddcgaaGreatDoorEvFin0
import Derived.Test.YteijaoaiiddcgaaGreatDoorRows
import Derived.WalkKit
import Derived.WalkSpells
import Derived.Maps.RangeRun
namespace Go.Proofs.YteijaoaiiddcgaaGreatDoor
open Go Go.Ev Go.RowKit
open Go.ChangeMaps (setBlock)

/-- A map's entries: texts, each to true; the texts are just those of a set. -/
structure Texts (l : List MapEntry) (clock : Nat) (S : ByteArray → Prop) : Prop where
  vals : ∀ e ∈ l, e.val = .bool true
  born : ∀ e ∈ l, e.born < clock
  keys : ∀ e ∈ l, ∃ t, S t ∧ e.key = .string t
  all : ∀ t, S t → ∃ e ∈ l, e.key = .string t
  apart : (l.map (·.born)).Nodup

theorem findNow_texts {s : ByteArray} : ∀ {l : List MapEntry} (i : Nat), (∀ e ∈ l, ∃ t, e.key = .string t) →
    (Instr.findNow .string (.string s) l i = some none ∧ ∀ e ∈ l, e.key ≠ .string s) ∨ ∃ j e, Instr.findNow .string (.string s) l i = some (some (i + j, e.val)) ∧ l[j]? = some e ∧ e.key = .string s
  | [], i, _ => .inl ⟨rfl, by simp⟩
  | e :: l, i, hl => by
    obtain ⟨t, ht⟩ := hl e List.mem_cons_self
    rw [Instr.findNow]
    simp only [ht, Instr.sameNow]
    cases hb : (s == t) with
    | true => right; exact ⟨0, e, rfl, rfl, by rw [ht, (text_beq _ _).1 hb]⟩
    | false =>
      have hne : t ≠ s := fun h => by rw [(text_beq _ _).2 h.symm] at hb; cases hb
      rcases findNow_texts (s := s) (l := l) (i + 1) fun e he => hl e (List.mem_cons_of_mem _ he) with ⟨h1, h2⟩ | ⟨j, e', h1, h2, h3⟩
      · left
        refine ⟨h1, fun e' he' => ?_⟩
        rcases List.mem_cons.1 he' with rfl | he'
        · rw [ht]; intro h; exact hne (Value.string.inj h)
        · exact h2 e' he'
      · right
        refine ⟨j + 1, e', ?_, by simpa using h2, h3⟩
        rw [h1, show i + 1 + j = i + (j + 1) by omega]

theorem run_update {P : Program} {t kt el : TypeId} (hu : P.underlying t = some (.map kt el)) (hk : P.underlying kt = some .string) {w : World} {b clock : Nat} {l : List MapEntry} {S : ByteArray → Prop} (s : ByteArray)
    (hb : w.heap[b]? = some (.map l.toArray clock)) (T : Texts l clock S) :
    ∃ l' clock', (Instr.mapUpdate t (.map (some b)) (.string s) (.bool true)).run P w = .ok () (setBlock w b (.map l'.toArray clock')) ∧ Texts l' clock' fun x => x = s ∨ S x := by
  have hp : plainKey P kt = true := by unfold plainKey; rw [hk]
  have hc := run_checkKey hp false 9999 (.string s) w
  have hgo : (getObj b).run P w = .ok (.map l.toArray clock) w := by simp only [getObj, Sem.run, hb]
  have hset : ∀ o, (setObj b o).run P w = .ok () (setBlock w b o) := fun o => run_setObj_map o hb
  rcases findNow_texts (s := s) (l := l) 0 fun e he => by obtain ⟨x, _, h⟩ := T.keys e he; exact ⟨x, h⟩ with ⟨h1, h2⟩ | ⟨j, e, h1, h2, h3⟩
  · have hf : (Instr.findKey kt (.string s) l).run P w = .ok none w := by
      simp only [Instr.findKey, Sem.run_bind, run_underlying hk, Result.andThen_ok, h1]
      rfl
    refine ⟨l ++ [⟨.string s, .bool true, clock⟩], clock + 1, ?_, ?_⟩
    · simp only [Instr.mapUpdate, Sem.run_bind, run_underlying hu, Result.andThen_ok, hgo, hc, List.toList_toArray, hf, hset]
      simp
    · refine ⟨?_, ?_, ?_, ?_, ?_⟩
      · intro e he
        rcases List.mem_append.1 he with he | he
        · exact T.vals e he
        · simp only [List.mem_singleton] at he; subst he; rfl
      · intro e he
        rcases List.mem_append.1 he with he | he
        · have := T.born e he; omega
        · simp only [List.mem_singleton] at he; subst he; simp
      · intro e he
        rcases List.mem_append.1 he with he | he
        · obtain ⟨x, q1, q2⟩ := T.keys e he; exact ⟨x, .inr q1, q2⟩
        · simp only [List.mem_singleton] at he; subst he; exact ⟨s, .inl rfl, rfl⟩
      · rintro x (rfl | hx)
        · exact ⟨_, List.mem_append_right _ (List.mem_singleton.2 rfl), rfl⟩
        · obtain ⟨e, q1, q2⟩ := T.all x hx; exact ⟨e, List.mem_append_left _ q1, q2⟩
      · rw [List.map_append, List.map_cons, List.map_nil, List.nodup_append]
        refine ⟨T.apart, by simp, ?_⟩
        intro a ha c hc
        simp only [List.mem_singleton] at hc
        subst hc
        obtain ⟨e, q1, rfl⟩ := List.mem_map.1 ha
        have := T.born e q1; simp; omega
  · have hf : (Instr.findKey kt (.string s) l).run P w = .ok (some (j, e.val)) w := by
      simp only [Instr.findKey, Sem.run_bind, run_underlying hk, Result.andThen_ok, h1, Nat.zero_add]
      rfl
    have hel : e ∈ l := List.mem_of_getElem? h2
    have hs2 : Instr.sameBits 10000 (.string s) (.string s) = true := by
      have : (s == s) = true := (text_beq _ _).2 rfl
      simp [Instr.sameBits, this]
    have hmod : (l.toArray.modify j fun e => { e with key := .string s, val := .bool true }) = l.toArray := by
      apply Array.ext'
      apply List.ext_getElem?
      intro i
      simp only [Array.getElem?_toList, Array.getElem?_modify, List.getElem?_toArray]
      by_cases hij : j = i
      · subst hij
        rw [if_pos rfl, h2]
        have hv := T.vals e hel
        obtain ⟨k1, v1, b1⟩ := e
        simp only at hv h3
        subst hv h3
        rfl
      · rw [if_neg hij]
    refine ⟨l, clock, ?_, ?_⟩
    · simp only [Instr.mapUpdate, Sem.run_bind, run_underlying hu, Result.andThen_ok, hgo, hc, List.toList_toArray, hf]
      have : l.toArray[j]? = some e := by simpa using h2
      simp only [this, Option.map_some, Option.getD_some, h3, Instr.keyThatStays, hs2, if_true, Sem.run_pure, Result.andThen_ok, hset, hmod]
    · refine ⟨T.vals, T.born, ?_, ?_, T.apart⟩
      · intro e he; obtain ⟨x, q1, q2⟩ := T.keys e he; exact ⟨x, .inr q1, q2⟩
      · rintro x (rfl | hx)
        · exact ⟨e, hel, h3⟩
        · exact T.all x hx

/-- What has been gone through of a map, or was there ahead. -/
def Got (s : ByteArray) (l0 : List MapEntry) (seen : Array Nat) (t : ByteArray) : Prop := t = s ∨ ∃ e ∈ l0, seen.contains e.born = true ∧ e.key = .string t

theorem Texts.congr {l : List MapEntry} {k : Nat} {S S' : ByteArray → Prop} (T : Texts l k S) (h : ∀ t, S t ↔ S' t) : Texts l k S' :=
  ⟨T.vals, T.born, fun e he => by obtain ⟨t, h1, h2⟩ := T.keys e he; exact ⟨t, (h t).1 h1, h2⟩, fun t ht => T.all t ((h t).2 ht), T.apart⟩

set_option maxRecDepth 100000 in
theorem with_some (r : Nat) (l0 : List MapEntry) (clock0 : Nat) (S0 : ByteArray → Prop) (s : ByteArray) (w : World) (ho : w.heap[r]? = some (.map l0.toArray clock0)) (T0 : Texts l0 clock0 S0) :
    Calls Tryz.prog 36 #[.map (some r), .string s] w fun e w' => e = .returned (.map (some w.heap.size)) ∧ (∃ l k, w'.heap[w.heap.size]? = some (.map l.toArray k) ∧ Texts l k fun t => t = s ∨ S0 t) ∧ w.heap.size < w'.heap.size ∧ Below w.heap.size w w' := by
  have hr : r < w.heap.size := by
    rcases Nat.lt_or_ge r w.heap.size with h | h
    · exact h
    · rw [Array.getElem?_eq_none h] at ho; cases ho
  have hmm := @run_makeMap Tryz.prog
  have h0 : (w.alloc (.map #[] 0)).heap[w.heap.size]? = some (.map ([] : List MapEntry).toArray 0) := by
    show (w.heap.push _)[w.heap.size]? = _
    simp
  obtain ⟨l1, k1, hins, T1⟩ := run_update (P := Tryz.prog) Tryz.underlying103 Tryz.underlying9 s h0 (S := fun _ => False) ⟨by simp, by simp, by simp, by simp, by simp⟩
  obtain ⟨W1, hW1⟩ : ∃ W1, W1 = setBlock (w.alloc (.map #[] 0)) w.heap.size (.map l1.toArray k1) := ⟨_, rfl⟩
  rw [← hW1] at hins
  have f1 : W1.heap[w.heap.size]? = some (.map l1.toArray k1) := by rw [hW1]; simp [setBlock]
  have f2 : W1.heap.size = w.heap.size + 1 := by rw [hW1]; simp [setBlock]
  have f3 : ∀ i, i < w.heap.size → W1.heap[i]? = w.heap[i]? := fun i hi => by
    rw [hW1]
    show ((w.heap.push _).setIfInBounds _ _)[i]? = _
    rw [Array.getElem?_setIfInBounds_ne (by omega), Array.getElem?_push, if_neg (by omega)]
  have f4 : Below w.heap.size w W1 := ⟨by rw [hW1]; rfl, by rw [hW1]; rfl, by rw [hW1]; rfl, by omega, f3⟩
  clear hW1
  have f5 : W1.heap[r]? = some (.map l0.toArray clock0) := by rw [f3 r hr]; exact ho
  have hrng : (Instr.range 103 (.map (some r))).run Tryz.prog W1 = .ok (.pointer (some ⟨w.heap.size + 1, 0, none⟩)) (W1.alloc (.mapIter (some r) clock0 #[] clock0)) := by
    have hgo : (getObj r).run Tryz.prog W1 = .ok (.map l0.toArray clock0) W1 := by simp only [getObj, Sem.run, f5]
    simp only [Instr.range, Sem.run_bind, run_underlying Tryz.underlying103, Result.andThen_ok, hgo, Sem.run_pure, run_newObj, World.alloc_eq, f2]
  obtain ⟨W2, hW2⟩ : ∃ W2, W2 = W1.alloc (.mapIter (some r) clock0 #[] clock0) := ⟨_, rfl⟩
  rw [← hW2] at hrng
  have e1 : W2.heap[w.heap.size + 1]? = some (.mapIter (some r) clock0 #[] clock0) := by
    rw [hW2]
    show (W1.heap.push _)[w.heap.size + 1]? = _
    rw [← f2]; simp
  have e2 : W2.heap.size = w.heap.size + 2 := by rw [hW2]; simp [f2]
  have e3 : ∀ i, i < w.heap.size + 1 → W2.heap[i]? = W1.heap[i]? := fun i hi => by
    rw [hW2]
    show (W1.heap.push _)[i]? = _
    rw [Array.getElem?_push, if_neg (by omega)]
  have e4 : Below w.heap.size w W2 := f4.trans ⟨by rw [hW2]; rfl, by rw [hW2]; rfl, by rw [hW2]; rfl, by omega, fun i hi => e3 i (by omega)⟩
  clear hW2
  go_enter Tryz.func36, Tryz.ntmps36
  go_wp2
  go_loopw [6] (fun _ wr => ∃ (seen : Array Nat) (l : List MapEntry) (k : Nat), wr.heap[w.heap.size + 1]? = some (.mapIter (some r) clock0 seen clock0) ∧ wr.heap[r]? = some (.map l0.toArray clock0) ∧
      wr.heap[w.heap.size]? = some (.map l.toArray k) ∧ Texts l k (Got s l0 seen) ∧ wr.heap.size = w.heap.size + 2 ∧ Below w.heap.size w wr)
    (fun _ wr => wr.rangeLeft r (w.heap.size + 1))
  case atStart =>
    refine ⟨#[], l1, k1, e1, by rw [e3 r (by omega)]; exact f5, by rw [e3 _ (by omega)]; exact f1, T1.congr fun t => ?_, e2, e4⟩
    unfold Got
    simp
  case round =>
    obtain ⟨seen, l, k, g1, g2, g3, g4, g5, g6⟩ := hrel
    rcases run_next_at (P := Tryz.prog) wr 0 (w.heap.size + 1) r clock0 clock0 seen l0.toArray clock0 g1 g2 (by simpa using T0.born) (Nat.le_refl _) with ⟨hz, hnx⟩ | ⟨e, hel, w1, hal, hnx⟩
    · go_wp2
      go_ret
      refine ⟨rfl, ⟨l, k, g3, g4.congr fun t => ?_⟩, by omega, g6⟩
      have hall := all_seen l0.toArray seen hz
      unfold Got
      constructor
      · rintro (h | ⟨e, h1, h2, h3⟩)
        · exact .inl h
        · right
          obtain ⟨t', q1, q2⟩ := T0.keys e h1
          rw [h3] at q2
          rw [Value.string.inj q2]; exact q1
      · rintro (h | h)
        · exact .inl h
        · obtain ⟨e, h1, h2⟩ := T0.all t h
          exact .inr ⟨e, h1, hall e (by simpa using h1), h2⟩
    · have hme := mem_left hel
      have he0 : e ∈ l0 := by simpa using hme.1
      obtain ⟨t, ht, hkey⟩ := T0.keys e he0
      have hval := T0.vals e he0
      rw [hkey, hval] at hnx
      have hw1 : w1.heap = wr.heap ∧ w1.os = wr.os ∧ w1.tape = wr.tape ∧ w1.output = wr.output := by rcases hal with rfl | rfl <;> exact ⟨rfl, rfl, rfl, rfl⟩
      obtain ⟨W3, hW3⟩ : ∃ W3, W3 = setBlock w1 (w.heap.size + 1) (.mapIter (some r) clock0 (seen.push e.born) clock0) := ⟨_, rfl⟩
      rw [← hW3] at hnx
      have j1 : W3.heap[w.heap.size + 1]? = some (.mapIter (some r) clock0 (seen.push e.born) clock0) := by
        rw [hW3]; simp [setBlock, hw1.1, g5]
      have j2 : W3.heap.size = w.heap.size + 2 := by rw [hW3]; simp [setBlock, hw1.1, g5]
      have j3 : ∀ i, i ≠ w.heap.size + 1 → W3.heap[i]? = wr.heap[i]? := fun i hi => by
        rw [hW3]
        show (w1.heap.setIfInBounds _ _)[i]? = _
        rw [Array.getElem?_setIfInBounds_ne (Ne.symm hi), hw1.1]
      have j4 : Below w.heap.size w W3 := g6.trans ⟨by rw [hW3]; exact hw1.2.1, by rw [hW3]; exact hw1.2.2.1, by rw [hW3]; exact hw1.2.2.2, by omega, fun i hi => j3 i (by omega)⟩
      clear hW3
      have hent := run_entry_at (P := Tryz.prog) W3 (w.heap.size + 1) r clock0 seen l0.toArray clock0 e j1 (by rw [j3 r (by omega)]; exact g2) (by simpa using he0) (by simpa using T0.apart)
      rw [hkey, hval] at hent
      obtain ⟨l', k', hup, T'⟩ := run_update (P := Tryz.prog) Tryz.underlying103 Tryz.underlying9 t (show W3.heap[w.heap.size]? = some (.map l.toArray k) by rw [j3 _ (by omega)]; exact g3) g4
      obtain ⟨W4, hW4⟩ : ∃ W4, W4 = setBlock W3 w.heap.size (.map l'.toArray k') := ⟨_, rfl⟩
      rw [← hW4] at hup
      have k1' : W4.heap[w.heap.size]? = some (.map l'.toArray k') := by rw [hW4]; simp [setBlock, j2]
      have k2 : W4.heap.size = w.heap.size + 2 := by rw [hW4]; simp [setBlock, j2]
      have k3 : ∀ i, i ≠ w.heap.size → W4.heap[i]? = W3.heap[i]? := fun i hi => by
        rw [hW4]
        show (W3.heap.setIfInBounds _ _)[i]? = _
        rw [Array.getElem?_setIfInBounds_ne (Ne.symm hi)]
      have k4 : Below w.heap.size w W4 := j4.trans ⟨by rw [hW4]; rfl, by rw [hW4]; rfl, by rw [hW4]; rfl, by omega, fun i hi => k3 i (by omega)⟩
      clear hW4
      have h4it : W4.heap[w.heap.size + 1]? = some (.mapIter (some r) clock0 (seen.push e.born) clock0) := by rw [k3 _ (by omega)]; exact j1
      have h4r : W4.heap[r]? = some (.map l0.toArray clock0) := by rw [k3 r (by omega), j3 r (by omega)]; exact g2
      have hless := left_shrinks l0.toArray seen e hel
      have hT : Texts l' k' (Got s l0 (seen.push e.born)) := T'.congr fun x => by
        unfold Got
        constructor
        · rintro (h | h | ⟨e', q1, q2, q3⟩)
          · exact .inr ⟨e, he0, by rw [contains_push]; simp, by rw [hkey, h]⟩
          · exact .inl h
          · exact .inr ⟨e', q1, by rw [contains_push, q2, Bool.true_or], q3⟩
        · rintro (h | ⟨e', q1, q2, q3⟩)
          · exact .inr (.inl h)
          · rw [contains_push, Bool.or_eq_true] at q2
            rcases q2 with q2 | q2
            · exact .inr (.inr ⟨e', q1, q2, q3⟩)
            · have hb : e'.born = e.born := by simpa using q2
              have := born_inj T0.apart q1 he0 hb
              subst this
              rw [hkey] at q3
              exact .inl (Value.string.inj q3).symm
      have hml : wr.rangeLeft r (w.heap.size + 1) = (leftOf l0.toArray seen).size := by unfold World.rangeLeft; rw [g2, g1]
      have hml' : W4.rangeLeft r (w.heap.size + 1) = (leftOf l0.toArray (seen.push e.born)).size := by unfold World.rangeLeft; rw [h4r, h4it]
      clear T' hal hw1 hel hme
      go_wp2
      go_roundw
      case rel => exact ⟨_, l', k', h4it, h4r, k1', hT, k2, k4⟩
      case measure => rw [hml, hml']; exact hless

end Go.Proofs.YteijaoaiiddcgaaGreatDoor
