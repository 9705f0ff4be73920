/- The deterministic machine: code, calls, and statements whose order is open. -/
import Derived.Test.YteijaoaiiddcgaaGreatDoorEvOps8
import Derived.Test.YteijaoaiiddcgaaGreatDoorEvEnv0
import Derived.Scope
namespace Go.Ev
open Go

noncomputable section

/-- A value, laid out. -/
def AV.forceK {R : Type} (v : AV) (k : AV → R) : R :=
  match v with
  | .int kd u => forceN u fun u => k (.int kd u)
  | .bool b => match b with
    | true => k (.bool true)
    | false => k (.bool false)
  | .str n c => forceN n fun n => forceN c fun c => k (.str n c)
  | .ptr b off => forceN off fun off => k (.ptr b off)
  | .slice b off len cap => forceN off fun off => forceN len fun len => forceN cap fun cap => k (.slice b off len cap)
  | .sliceU b off len cut => forceN off fun off => forceN len fun len => forceN cut fun cut => k (.sliceU b off len cut)
  | .agg l => forceL l fun l => k (.agg l)
  | .tup l => forceL l fun l => k (.tup l)
  | v => k v

theorem AV.forceK_eq {R : Type} (v : AV) (k : AV → R) : v.forceK k = k v := by
  cases v <;> simp only [AV.forceK, forceN_eq, forceL_eq]
  case bool b => cases b <;> rfl

def evA (gv : Nat → Option Pos) (e : En) : Operand → Option AV
  | .tmp t => some (getA e t)
  | .const v => ofVal v
  | .global g => match gv g with
    | some b => some (.ptr b 0)
    | none => none
  | .func f => some (.func (.func f) [] [])

/-- Operands, one behind the other. -/
def evAs (f : Operand → Option AV) : List Operand → Option (List AV)
  | [] => some []
  | x :: l => match f x with
    | some a => match evAs f l with
      | some y => some (a :: y)
      | none => none
    | none => none

def zipP (ps : List (Nat × Operand)) (xs : List AV) : List (Nat × AV) :=
  match ps, xs with
  | p :: ps, x :: xs => (p.1, x) :: zipP ps xs
  | _, _ => []

/-- A conversion that makes nothing. -/
def evConvQ (P : Program) (s d : TypeId) (x : AV) (h : Tr Obj) : Option AV :=
  match P.underlying d with
  | some (.int _) => match evConvert P s d x h .h with
    | .val v _ _ => some v
    | .fail => none
  | some .string => match evConvert P s d x h .h with
    | .val v _ _ => some v
    | .fail => none
  | _ => none

/-- An operation that leaves memory alone, but a call, on the values of its operands. -/
def evQ (P : Program) (o : Oper) (xs : List AV) (h : Tr Obj) : Option AV :=
  match o.op with
  | .move _ => match xs with
    | [x] => some x
    | _ => none
  | .assign _ => match xs with
    | [x] => some x
    | _ => none
  | .pick _ _ _ => match xs with
    | [.bool b, x, y] => match b with
      | true => some x
      | false => some y
    | _ => none
  | .build t ps => evBuild P t (zipP ps.toList xs)
  | .load t _ => match xs with
    | [x] => evLoad P h t x
    | _ => none
  | .nilCheck _ => match xs with
    | [x] => evNil x
    | _ => none
  | .binOp op t x y _ => match xs with
    | [a, b] => evBin P op t (cstOf x y) a b h
    | _ => none
  | .unOp op _ _ => match xs with
    | [x] => evUn op x
    | _ => none
  | .convert s d _ => match xs with
    | [x] => evConvQ P s d x h
    | _ => none
  | .makeInterface t _ => match xs with
    | [x] => evIface P t x
    | _ => none
  | .makeFunc fn first _ => some (.func fn (xs.take first.size) (xs.drop first.size))
  | .slice t _ lo hi mx => match xs with
    | x :: ys => match lo, hi, mx, ys with
      | none, none, none, [] => evSlice P t x none none none h
      | some _, none, none, [a] => evSlice P t x (some a) none none h
      | none, some _, none, [b] => evSlice P t x none (some b) none h
      | some _, some _, none, [a, b] => evSlice P t x (some a) (some b) none h
      | none, some _, some _, [b, d] => evSlice P t x none (some b) (some d) h
      | some _, some _, some _, [a, b, d] => evSlice P t x (some a) (some b) (some d) h
      | _, _, _, _ => none
    | [] => none
  | .fieldAddr t _ f => match xs with
    | [x] => evFieldAddr P t f x
    | _ => none
  | .field t _ f => match xs with
    | [x] => evField P t f x
    | _ => none
  | .indexAddr t _ _ => match xs with
    | [x, i] => evIndexAddr P t x i
    | _ => none
  | .index t _ _ => match xs with
    | [x, i] => evIndex P t x i
    | _ => none
  | .lookup t _ _ ok => match xs with
    | [x, i] => evLook P t x i ok h
    | _ => none
  | .next _ s => match xs, s with
    | [x], false => evNext x h
    | _, _ => none
  | .entry _ => match xs with
    | [x] => evEntry x h
    | _ => none
  | .extract _ i => match xs with
    | [x] => evExtract i x
    | _ => none
  | _ => none

/-- An operation, but a call, on the values of its operands. -/
def evS (P : Program) (o : Oper) (xs : List AV) (h : Tr Obj) (nx : Pos) : Rs :=
  match o.op with
  | .alloc t => evAlloc P t h nx
  | .box t _ => match xs with
    | [x] => evBox t x h nx
    | _ => .fail
  | .buildSlice t n ps => evBuildSlice P t n (zipP ps.toList xs) h nx
  | .store t _ _ => match xs with
    | [a, v] => evStore P t a v h nx
    | _ => .fail
  | .convert s d _ => match xs with
    | [x] => evConvert P s d x h nx
    | _ => .fail
  | .makeMap _ r => match r with
    | none => evMakeMap h nx
    | some _ => .fail
  | .mapUpdate t _ _ _ => match xs with
    | [m, k, v] => evMapUpdate P t m k v h nx
    | _ => .fail
  | .insert t _ _ _ => match xs with
    | [m, k, v] => evMapUpdate P t m k v h nx
    | _ => .fail
  | .range t _ => match xs with
    | [x] => evRange P t x h nx
    | _ => .fail
  | .next _ s => match xs, s with
    | [x], false => evNextS x h nx
    | _, _ => .fail
  | _ => Rs.pure h nx (evQ P o xs h)

/-- What a call comes to: it is done, or a function is entered. -/
inductive Cl where
  | rs (r : Rs)
  | enter (f : FuncId) (args : List AV)

def foldM (isMax : Bool) (a : AV) : List AV → Option AV
  | [] => some a
  | b :: l => match evMin2 isMax a b with
    | some x => foldM isMax x l
    | none => none

/-- A call that leaves memory alone. -/
def evClQ (P : Program) (c : Call) (xs : List AV) (h : Tr Obj) : Option AV :=
  match c.callee with
  | .builtin b => match b with
    | .len => match c.argTypes[0]?, xs with
      | some t, [x] => evLenS P t x h
      | _, _ => none
    | .min => match xs with
      | a :: l => foldM false a l
      | [] => none
    | .max => match xs with
      | a :: l => foldM true a l
      | [] => none
    | .unsafeSliceData => match xs with
      | [x] => evSliceData P x h
      | _ => none
    | _ => none
  | _ => none

def evCl (P : Program) (ex : FuncId → List AV → Option AV) (c : Call) (xs : List AV) (h : Tr Obj) (nx : Pos) : Cl :=
  match c.callee with
  | .builtin b => match b with
    | .append => match c.argTypes[0]?, c.argTypes[1]?, xs with
      | some s, some t, [a, x] => .rs (evAppend P s t a x h nx)
      | _, _, _ => .rs .fail
    | .unsafeString => match c.argTypes[0]?, xs with
      | some t, [x, n] => .rs (evUnsafeString P t x n h nx)
      | _, _ => .rs .fail
    | _ => .rs (Rs.pure h nx (evClQ P c xs h))
  | .value _ => match xs with
    | .func (.func f) first caps :: args => match P.funcs[f]? with
      | some fn => match fn.body with
        | some _ => match fn.name == "runtime.NumGoroutine" with
          | false => .enter f (first ++ args ++ caps)
          | true => .rs .fail
        | none => .rs (Rs.pure h nx (ex f (first ++ args ++ caps)))
      | none => .rs .fail
    | _ => .rs .fail
  | .invoke _ _ => .rs .fail

inductive Ex where
  | normal
  | exit (id : Nat)
  | ret

inductive Out where
  | fail
  | ok (x : Ex) (e : En) (h : Tr Obj) (nx : Pos)

def resA (P : Program) (e : En) (h : Tr Obj) : List ResultVar → Option (List AV)
  | [] => some []
  | .tmp t :: l => match resA P e h l with
    | some x => some (getA e t :: x)
    | none => none
  | .cell a t :: l => match getA e a with
    | .ptr b off => match loadAt P h t b off, resA P e h l with
      | some v, some x => some (v :: x)
      | _, _ => none
    | _ => none

/-- What a function comes to. -/
abbrev Callee := FuncId → List AV → Tr Obj → Pos → Rs

/-- An operation on its operands' values. -/
def evO (P : Program) (ex : FuncId → List AV → Option AV) (cl : Callee) (o : Oper) (xs : List AV) (h : Tr Obj) (nx : Pos) : Rs :=
  match o.op with
  | .call c => match evCl P ex c xs h nx with
    | .rs r => r
    | .enter f args => cl f args h nx
  | _ => evS P o xs h nx

/-- Is an operation carried out? -/
def wantedA (get : Nat → AV) (ops : Array Oper) (o : Oper) : Option Bool :=
  match o.guard with
  | none => some true
  | some (j, want) => match ops[j]? with
    | some g => match g.dst with
      | some d => match get d with
        | .bool b => some (b == want)
        | .undef => some false
        | _ => none
      | none => none
    | none => none

/-- A value is put where it belongs. -/
def putE (nt : Nat) (d : Option Tmp) (v : AV) (e : En) : Option En :=
  match d with
  | none => some e
  | some d => match Nat.blt d nt with
    | true => some (En.put d v e)
    | false => none

/- A region whose order is open. -/

/-- The operations that stand ahead of one, as a set. -/
def maskOf (o : Oper) : Nat := o.after.toList.foldl (fun m x => match Region.binds .any x with
  | true => Nat.lor m (Nat.shiftLeft 1 x.on)
  | false => m) 0

def inMask (m i : Nat) : Bool := Nat.beq (Nat.land (Nat.shiftRight m i) 1) 1

/-- Does an operation turn what others may see? -/
def isEff (o : Oper) : Bool :=
  match o.op with
  | .store .. => true
  | .mapUpdate .. => true
  | .insert .. => true
  | .range .. => true
  | .call c => match c.callee with
    | .builtin b => match b with
      | .len => false
      | .min => false
      | .max => false
      | .unsafeSliceData => false
      | _ => true
    | _ => true
  | _ => false

/-- Does it make a block, and is it otherwise alone? -/
def isAlloc (o : Oper) : Bool :=
  match o.op with
  | .alloc _ => true
  | .box _ _ => true
  | .buildSlice _ _ _ => true
  | .makeMap _ _ => true
  | _ => false

/-- Does its value hang on memory? -/
def isDep (o : Oper) : Bool :=
  match o.op with
  | .load .. => true
  | .binOp .. => true
  | .convert .. => true
  | .slice .. => true
  | .lookup .. => true
  | .next .. => true
  | .entry .. => true
  | .call .. => true
  | _ => false

/-- Of an operation: its number, itself, what stands ahead of it, its rank. -/
structure Inf where
  i : Nat
  o : Oper
  m : Nat
  r : Nat

/-- The greatest rank in a set. -/
def maxRank (m : Nat) : List Inf → Nat
  | [] => 0
  | x :: l => match inMask m x.i with
    | true => Nat.max x.r (maxRank m l)
    | false => maxRank m l

/-- Ranks: an effect's number, from 1 on; of another one the greatest number ahead of it. The last one first. -/
def infos : List Oper → Nat → Nat → List Inf → Option (List Inf × Nat)
  | [], _, k, acc => some (acc, k)
  | o :: l, i, k, acc => forceN (maskOf o) fun m => match Nat.blt m (Nat.shiftLeft 1 i) with
    | true => match isEff o with
      | true => match Nat.beq (maxRank m acc) k with
        | true => forceN (Nat.succ i) fun i' => forceN (Nat.succ k) fun k' => infos l i' k' (⟨i, o, m, k'⟩ :: acc)
        | false => none
      | false => forceN (maxRank m acc) fun r => forceN (Nat.succ i) fun i' => infos l i' k (⟨i, o, m, r⟩ :: acc)
    | false => none

/-- Up to which effect an operation may wait: less than each effect that it stands ahead of, and no longer than what waits for it. -/
def hiOf (i k : Nat) : List (Inf × Nat) → Nat
  | [] => k
  | x :: l => match inMask x.1.m i with
    | true => Nat.min x.2 (hiOf i k l)
    | false => hiOf i k l

/-- Behind each operation its bound; the first one first. -/
def bounds (k : Nat) : List Inf → List (Inf × Nat) → List (Inf × Nat)
  | [], acc => acc
  | x :: l, acc => match isEff x.o with
    | true => forceN (Nat.sub x.r 1) fun b => bounds k l ((x, b) :: acc)
    | false => forceN (hiOf x.i k acc) fun b => bounds k l ((x, b) :: acc)

/-- Who writes a temporary. -/
def writer (t : Nat) : List (Inf × Nat) → Option (Inf × Nat)
  | [] => none
  | x :: l => match x.1.o.dst with
    | some d => match Nat.beq d t with
      | true => some x
      | false => writer t l
    | none => writer t l

/-- Does an operation see a temporary's right value, whatever the order? -/
def seesOk (x : Inf) (t : Nat) (all : List (Inf × Nat)) : Bool :=
  match writer t all with
  | none => true
  | some y => Nat.beq y.1.i x.i || inMask x.m y.1.i || inMask y.1.m x.i

def readsOk (x : Inf) (all : List (Inf × Nat)) : List Operand → Bool
  | [] => true
  | .tmp t :: l => match seesOk x t all with
    | true => readsOk x all l
    | false => false
  | _ :: l => readsOk x all l

/-- No other operation of the list writes what this one writes. -/
def aloneOk (d : Option Nat) (l : List (Inf × Nat)) : Bool := match d with
  | none => true
  | some d => match writer d l with
    | none => true
    | some _ => false

def allOk (all : List (Inf × Nat)) : List (Inf × Nat) → Bool
  | [] => true
  | x :: l => match aloneOk x.1.o.dst l && readsOk x.1 all x.1.o.op.operands.toList && (match x.1.o.guard with
      | none => true
      | some (g, _) => inMask x.1.m g) with
    | true => allOk all l
    | false => false

/-- The operations of a rank. -/
def stageOf (j : Nat) : List (Inf × Nat) → List Inf
  | [] => []
  | x :: l => match Nat.beq x.1.r j with
    | true => x.1 :: stageOf j l
    | false => stageOf j l

def stagesOf (all : List (Inf × Nat)) : Nat → List (List Inf) → List (List Inf)
  | 0, acc => stageOf 0 all :: acc
  | j + 1, acc => stagesOf all j (stageOf (j + 1) all :: acc)

/-- What is known of a region ahead of its run. -/
def plan (ops : Array Oper) : Option (List (Inf × Nat) × List (List Inf)) :=
  match infos ops.toList 0 0 [] with
  | some (l, k) => match allOk (bounds k l []) (bounds k l []) with
    | true => some (bounds k l [], stagesOf (bounds k l []) k [])
    | false => none
  | none => none

/-- An operand's value: what another operation of the region yields that stands ahead, or what was there. -/
def opA (gv : Nat → Option Pos) (all : List (Inf × Nat)) (x : Inf) (V : En) (e : En) : Operand → Option AV
  | .tmp t => match writer t all with
    | none => some (getA e t)
    | some y => match inMask x.m y.1.i with
      | true => some (getA V y.1.i)
      | false => some (getA e t)
  | .const v => ofVal v
  | .global g => match gv g with
    | some b => some (.ptr b 0)
    | none => none
  | .func f => some (.func (.func f) [] [])

/-- Is an operation of such a region carried out? -/
def guardA (ops : Array Oper) (V : En) (o : Oper) : Option Bool :=
  match o.guard with
  | none => some true
  | some (j, want) => match ops[j]? with
    | some g => match g.dst with
      | some _ => match getA V j with
        | .bool b => some (b == want)
        | .undef => some false
        | _ => none
      | none => none
    | none => none

/-- One operation of a region whose order is open. -/
def evOne (P : Program) (gv : Nat → Option Pos) (ex : FuncId → List AV → Option AV) (cl : Callee) (ops : Array Oper) (all : List (Inf × Nat)) (e : En) (x : Inf) (V : En) (h : Tr Obj) (nx : Pos) : Rs :=
  match guardA ops V x.o with
  | some true => match evAs (opA gv all x V e) x.o.op.operands.toList with
    | some xs => match isEff x.o || isAlloc x.o with
      | true => evO P ex cl x.o xs h nx
      | false => match x.o.op with
        | .call c => Rs.pure h nx (evClQ P c xs h)
        | _ => Rs.pure h nx (evQ P x.o xs h)
    | none => .fail
  | some false => .val .undef h nx
  | none => .fail

inductive St where
  | fail
  | ok (V : En) (h : Tr Obj) (nx : Pos) (hs : List (Tr Obj × Pos))

def evStage (one : Inf → En → Tr Obj → Pos → Rs) (hs : List (Tr Obj × Pos)) : List Inf → En → Tr Obj → Pos → St
  | [], V, h, nx => .ok V h nx ((h, nx) :: hs)
  | x :: l, V, h, nx => match one x V h nx with
    | .val v h nx => evStage one hs l (En.put x.i v V) h nx
    | .fail => .fail

def evStages (one : Inf → En → Tr Obj → Pos → Rs) : List (List Inf) → En → Tr Obj → Pos → List (Tr Obj × Pos) → St
  | [], V, h, nx, hs => .ok V h nx hs
  | s :: l, V, h, nx, hs => match evStage one hs s V h nx with
    | .ok V h nx hs => evStages one l V h nx hs
    | .fail => .fail

mutual
/-- Two values are spelt the same. -/
def AV.eq : AV → AV → Bool
  | .undef, .undef => true
  | .bool a, .bool b => a == b
  | .int k u, .int j v => decide (k = j) && Nat.beq u v
  | .str n c, .str m d => Nat.beq n m && Nat.beq c d
  | .nilp, .nilp => true
  | .ptr b o, .ptr c p => Pos.eq b c && Nat.beq o p
  | .nils, .nils => true
  | .slice b o l k, .slice c p m j => Pos.eq b c && Nat.beq o p && Nat.beq l m && Nat.beq k j
  | .sliceU b o l k, .sliceU c p m j => Pos.eq b c && Nat.beq o p && Nat.beq l m && Nat.beq k j
  | .sliceZ b o l k x, .sliceZ c p m j y => Pos.eq b c && Nat.beq o p && Nat.beq l m && Nat.beq k j && x == y
  | .nilm, .nilm => true
  | .map b, .map c => Pos.eq b c
  | .func f a b, .func g c d => decide (f = g) && AV.eqL a c && AV.eqL b d
  | .nilf, .nilf => true
  | .iface t v, .iface s x => Nat.beq t s && AV.eq v x
  | .nili, .nili => true
  | .agg a, .agg b => AV.eqL a b
  | .tup a, .tup b => AV.eqL a b
  | .sym i, .sym j => Nat.beq i j
  | _, _ => false
def AV.eqL : List AV → List AV → Bool
  | [], [] => true
  | a :: l, b :: m => AV.eq a b && AV.eqL l m
  | _, _ => false
end

/-- In each memory from one effect to another one an operation yields what it yielded. The stages: the last one first, with its number. -/
def steady (f : Tr Obj → Option AV) (v : AV) (lo hi : Nat) : List (Tr Obj × Pos) → Nat → Bool
  | [], _ => true
  | s :: l, j => match Nat.ble lo (Nat.sub j 1) && Nat.ble (Nat.sub j 1) hi with
    | true => match f s.1 with
      | some u => match AV.eq u v with
        | true => steady f v lo hi l (Nat.sub j 1)
        | false => false
      | none => false
    | false => steady f v lo hi l (Nat.sub j 1)

def steadyOp (P : Program) (gv : Nat → Option Pos) (ops : Array Oper) (all : List (Inf × Nat)) (e : En) (V : En) (hs : List (Tr Obj × Pos)) (n : Nat) (x : Inf × Nat) : Bool :=
  match isDep x.1.o && !isEff x.1.o with
  | false => true
  | true => match guardA ops V x.1.o with
    | some false => true
    | some true => match evAs (opA gv all x.1 V e) x.1.o.op.operands.toList with
      | some xs => steady (fun h => match x.1.o.op with
        | .call c => evClQ P c xs h
        | _ => evQ P x.1.o xs h) (getA V x.1.i) x.1.r x.2 hs n
      | none => false
    | none => false

def steadyAll (P : Program) (gv : Nat → Option Pos) (ops : Array Oper) (all : List (Inf × Nat)) (e : En) (V : En) (hs : List (Tr Obj × Pos)) (n : Nat) : List (Inf × Nat) → Bool
  | [] => true
  | x :: l => match steadyOp P gv ops all e V hs n x with
    | true => steadyAll P gv ops all e V hs n l
    | false => false

/-- What all operations yielded, into the temporaries. -/
def putAll (nt : Nat) (V : En) (h : Tr Obj) (nx : Pos) : List (Inf × Nat) → En → Out
  | [], e => .ok .normal e h nx
  | x :: l, e => match putE nt x.1.o.dst (getA V x.1.i) e with
    | some e => putAll nt V h nx l e
    | none => .fail

def evDraw (P : Program) (gv : Nat → Option Pos) (ex : FuncId → List AV → Option AV) (cl : Callee) (ops : Array Oper) (nt : Nat) (e : En) (h : Tr Obj) (nx : Pos) : Out :=
  match plan ops with
  | some (all, stages) => match evStages (evOne P gv ex cl ops all e) stages .new h nx [] with
    | .ok V h nx hs => match steadyAll P gv ops all e V hs stages.length all with
      | true => putAll nt V h nx all e
      | false => .fail
    | .fail => .fail
  | none => .fail

end
end Go.Ev
