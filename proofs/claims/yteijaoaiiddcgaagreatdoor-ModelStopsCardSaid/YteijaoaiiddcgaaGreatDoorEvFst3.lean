/- Functions in the quick machine: what they come to, the model comes to in every world. -/
import Derived.Test.YteijaoaiiddcgaaGreatDoorEvFst2
namespace Go.Ev
open Go

/-- A function's end, behind some of its code. -/
noncomputable def runFrom (P : Program) (gv : Nat → Option Pos) (lb : Lib) (cl : Callee) (fn : Func) (code : Code) (args : List AV) (h : Tr Obj) (nx : Pos) : Rs :=
  match compR P fn.results.toList with
  | .mk r => argsF args (placesF fn.ntmps 0) .new fun e => runB (comp P gv lb.ex fn.ntmps code) r cl e h nx

section
variable {σ : Nat → Value} {P : Program} {gv : Nat → Option Pos} {c : Cx} {h : Tr Obj} {nx : Pos} {w : World}

theorem argsF_ok : ∀ (l : List AV) (n i : Nat) (e : En) (k : En → Rs), argsF l (placesF n i) e k = .fail ∨
    ∃ e', argsF l (placesF n i) e k = k e' ∧ l.length ≤ n ∧ (∀ j, getA e' j = if i ≤ j ∧ j < i + l.length then l[j - i]?.getD .undef else getA e j)
  | [], n, i, e, k => .inr ⟨e, rfl, Nat.zero_le _, fun j => by rw [if_neg (by simp only [List.length_nil]; omega)]⟩
  | a :: l, 0, i, e, k => .inl rfl
  | a :: l, n + 1, i, e, k => by
    have h0 : argsF (a :: l) (placesF (n + 1) i) e k = argsF l (placesF n (i + 1)) (En.put i a e) k := by
      cases hp : putW i with
      | mk p =>
        have : placesF (n + 1) i = p :: placesF n (i + 1) := by
          show (PW.rec (motive := fun _ => List FP) (fun p => p :: placesF n (i + 1)) (putW i) : List FP) = _
          rw [hp]
        rw [this]
        exact putW_ok hp a e fun e => argsF l (placesF n (i + 1)) e k
    rw [h0]
    rcases argsF_ok l n (i + 1) (En.put i a e) k with h1 | ⟨e', h1, h3, h2⟩
    · exact .inl h1
    · refine .inr ⟨e', h1, by simp; omega, fun j => ?_⟩
      rw [h2 j]
      by_cases hj : j = i
      · subst hj
        rw [if_neg (by omega), if_pos ⟨Nat.le_refl _, by simp⟩, getA_set]
        simp
      · by_cases hc : i + 1 ≤ j ∧ j < i + 1 + l.length
        · rw [if_pos hc, if_pos ⟨by omega, by simp; omega⟩, show j - i = (j - (i + 1)) + 1 by omega, List.getElem?_cons_succ]
        · rw [if_neg hc, if_neg (by simp only [List.length_cons]; omega), getA_set, if_neg hj]

theorem compR_ok {rs : List ResultVar} {r : En → Tr Obj → Pos → Rs} (hr : compR P rs = .mk r) {e : En} {v : AV} {h' : Tr Obj} {nx' : Pos} (he : r e h nx = .val v h' nx') :
    ∃ l, resA P e h rs = some l ∧ (match l with | [v] => Rs.val v h nx | l => .val (.tup l) h nx) = .val v h' nx' := by
  have gen : RW.mk (resF P rs) = .mk r → ∃ l, resA P e h rs = some l ∧ (match l with | [v] => Rs.val v h nx | l => .val (.tup l) h nx) = .val v h' nx' := by
    intro h1
    cases h1
    unfold resF at he
    cases hl : resA P e h rs with
    | none => rw [hl] at he; cases he
    | some l => rw [hl] at he; exact ⟨l, rfl, he⟩
  unfold compR at hr
  split at hr
  · rename_i t
    split at hr
    cases hr
    unfold resOne at he
    rename_i g hg
    rw [tmpW_ok hg] at he
    exact ⟨[getA e t], rfl, he⟩
  · exact gen hr

theorem runB_ok (hm : P.follows .mixedOrders = true) {ex : FuncId → List AV → Option AV} (hex : ExOk σ P ex) {cl : Callee} (hcl : CallOk σ P gv cl) {fn : Func} {code : Code} {res : En → Tr Obj → Pos → Rs}
    (hr : compR P fn.results.toList = .mk res) {e : En} {v : AV} {h' : Tr Obj} {nx' : Pos} (he : runB (comp P gv ex fn.ntmps code) res cl e h nx = .val v h' nx') (R : Rel σ P gv c h nx w) {a : Act} (E : EnvRel σ c e a.tmps)
    (hs : a.tmps.size = fn.ntmps) (hd : a.defers = []) : code.wp P (bodyPost P fn (CallPost σ P gv v h' nx' c h nx w)) a w := by
  unfold runB at he
  rcases runF_ok hm hex hcl code e h nx res (fun x e h nx => Ex.rec (motive := fun _ => (En → Tr Obj → Pos → Rs) → En → Tr Obj → Pos → Rs) (fun _ _ _ _ => .fail) (fun _ _ _ _ _ => .fail) (fun res e h nx => res e h nx) x res e h nx) with h1 | ⟨x, e1, h3, nx1, h1, hwp⟩
  · dsimp only at h1
    rw [h1] at he; cases he
  · dsimp only at h1
    rw [h1] at he
    refine wp_mono (hwp c w a R E hs) ?_
    intro ex a' w' hp
    obtain ⟨hx, c', R', X', E', hs', hd'⟩ := hp
    have key : ∀ l, resA P e1 h3 fn.results.toList = some l → (match l with | [v] => Rs.val v h3 nx1 | l => .val (.tup l) h3 nx1) = .val v h' nx' →
        ∃ v0, (results fn a'.tmps).run P w' = .ok v0 w' ∧ CallPost σ P gv v h' nx' c h nx w (.returned v0) w' := by
      intro l hl hv
      obtain ⟨g1, g2⟩ := resA_ok E' R' hl
      have g3 : (results fn a'.tmps).run P w' = .ok (if hh : (AV.concL σ c' l).toArray.size = 1 then (AV.concL σ c' l).toArray[0] else .tuple (AV.concL σ c' l).toArray) w' := by
        rw [results_eq, Array.mapM_eq_mapM_toList]
        simp only [Sem.run_bind, Sem.run_map]
        rw [g1]
        simp only [Result.andThen_ok, Sem.run_pure]
      refine ⟨_, g3, ?_⟩
      split at hv
      · rename_i v1
        cases hv
        exact ⟨c', by simp [AV.concL], R', X', g2.1⟩
      · rename_i hne
        cases hv
        refine ⟨c', ?_, R', X', g2⟩
        have : ¬ (AV.concL σ c' l).toArray.size = 1 := by
          intro hh
          simp only [AV.concL_map, List.size_toArray, List.length_map] at hh
          obtain ⟨v1, hv1⟩ := List.length_eq_one_iff.1 hh
          exact hne v1 hv1
        rw [dif_neg this]
        rfl
    subst hx
    cases x with
    | exit id => cases he
    | normal =>
      obtain ⟨l, hl, hv⟩ := compR_ok (h := h3) (nx := nx1) hr he
      exact ⟨hd'.trans hd, key l hl hv⟩
    | ret =>
      obtain ⟨l, hl, hv⟩ := compR_ok (h := h3) (nx := nx1) hr he
      exact ⟨hd'.trans hd, key l hl hv⟩

/-- What is known of functions holds. -/
structure LibOk (σ : Nat → Value) (P : Program) (gv : Nat → Option Pos) (lb : Lib) : Prop where
  ex : ExOk σ P lb.ex
  sm : ∀ f s args c h nx w v h' nx', lb.sm f = some s → s args h nx = .val v h' nx' → Rel σ P gv c h nx w → AV.allL c.L args → Calls P f (AV.concL σ c args).toArray w (CallPost σ P gv v h' nx' c h nx w)

theorem runFrom_ok (hm : P.follows .mixedOrders = true) {lb : Lib} (hlb : LibOk σ P gv lb) {cl : Callee} (hcl : CallOk σ P gv cl) {fn : Func} {code : Code} {args : List AV} {v : AV} {h' : Tr Obj} {nx' : Pos}
    (he : runFrom P gv lb cl fn code args h nx = .val v h' nx') (R : Rel σ P gv c h nx w) (ha : AV.allL c.L args) :
    code.wp P (bodyPost P fn (CallPost σ P gv v h' nx' c h nx w)) ⟨(AV.concL σ c args).toArray ++ Array.replicate (fn.ntmps - (AV.concL σ c args).toArray.size) undef, []⟩ w := by
  unfold runFrom at he
  cases hr : compR P fn.results.toList with
  | mk r =>
    rw [hr] at he; simp only at he
    rcases argsF_ok args fn.ntmps 0 .new fun e => runB (comp P gv lb.ex fn.ntmps code) r cl e h nx with h1 | ⟨e', h1, h3, h2⟩
    · rw [h1] at he; cases he
    · rw [h1] at he
      have hsz : (AV.concL σ c args).toArray.size = args.length := by simp [AV.concL_map]
      exact runB_ok hm hlb.ex hcl hr he R (env_args ha h3 fun j => by rw [h2 j, getA_new]; simp) (by simp only [Array.size_append, hsz, Array.size_replicate]; omega) rfl

theorem runFn_ok (hm : P.follows .mixedOrders = true) {lb : Lib} (hlb : LibOk σ P gv lb) {cl : Callee} (hcl : CallOk σ P gv cl) : CallOk σ P gv (runFn P gv lb cl) := by
  intro f args c h nx w v h' nx' he R ha
  unfold runFn at he
  cases hf : compF P gv lb f with
  | none => rw [hf] at he; cases he
  | sum s =>
    rw [hf] at he; simp only at he
    unfold compF at hf
    split at hf
    · rename_i s' hs
      cases hf
      exact hlb.sm f s args c h nx w v h' nx' hs he R ha
    · split at hf
      · split at hf
        · split at hf; cases hf
        · cases hf
      · cases hf
  | mk ps body res =>
    rw [hf] at he; simp only at he
    unfold compF at hf
    split at hf
    · cases hf
    · split at hf
      · rename_i fn hfn
        split at hf
        · rename_i code hbody
          split at hf
          rename_i r hr
          cases hf
          refine calls_of_wp hfn hbody (runFrom_ok hm hlb hcl (fn := fn) ?_ R ha)
          unfold runFrom
          rw [hr]
          exact he
        · cases hf
      · cases hf

theorem callN_ok (hm : P.follows .mixedOrders = true) {lb : Lib} (hlb : LibOk σ P gv lb) : ∀ n, CallOk σ P gv (callN P gv lb n)
  | 0 => fun _ _ _ _ _ _ _ _ _ he => by cases he
  | n + 1 => runFn_ok hm hlb (callN_ok hm hlb n)

end
end Go.Ev
