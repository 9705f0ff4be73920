/- The machine once more, quick for the kernel: code becomes functions in continuation form. -/
import Derived.Test.YteijaoaiiddcgaaGreatDoorEvCode0
namespace Go.Ev
open Go

noncomputable section

/-- What stands behind code that ends as ever, or otherwise. -/
abbrev KN := En → Tr Obj → Pos → Rs
abbrev KX := Ex → En → Tr Obj → Pos → Rs
abbrev KV := AV → Tr Obj → Pos → Rs
/-- An operation; an operand; operands; where a value goes; an operation on one value, on two. -/
abbrev FOp := Callee → En → Tr Obj → Pos → KN → Rs
abbrev FG := En → (AV → Rs) → Rs
abbrev FGs := En → (List AV → Rs) → Rs
abbrev FP := AV → En → (En → Rs) → Rs
abbrev F1 := AV → Tr Obj → Pos → KV → Rs
abbrev F2 := AV → AV → Tr Obj → Pos → KV → Rs

/-- Of a number. -/
def AV.intF (v : AV) (f : (IntKind → Nat → Rs)) (d : Rs) : Rs :=
  AV.rec (motive_1 := fun _ => (IntKind → Nat → Rs) → Rs → Rs) (motive_2 := fun _ => Unit)
    (fun _ d => d)
    (fun _ _ d => d)
    (fun k u f _ => f k u)
    (fun _ _ _ d => d)
    (fun _ d => d)
    (fun _ _ _ d => d)
    (fun _ d => d)
    (fun _ _ _ _ _ d => d)
    (fun _ _ _ _ _ d => d)
    (fun _ _ _ _ _ _ d => d)
    (fun _ d => d)
    (fun _ _ d => d)
    (fun _ _ _ _ _ _ d => d)
    (fun _ d => d)
    (fun _ _ _ _ d => d)
    (fun _ d => d)
    (fun _ _ _ d => d)
    (fun _ _ _ d => d)
    (fun _ _ d => d)
    () (fun _ _ _ _ => ()) v f d

/-- Of a place. -/
def AV.ptrF (v : AV) (f : (Pos → Nat → Rs)) (d : Rs) : Rs :=
  AV.rec (motive_1 := fun _ => (Pos → Nat → Rs) → Rs → Rs) (motive_2 := fun _ => Unit)
    (fun _ d => d)
    (fun _ _ d => d)
    (fun _ _ _ d => d)
    (fun _ _ _ d => d)
    (fun _ d => d)
    (fun b off f _ => f b off)
    (fun _ d => d)
    (fun _ _ _ _ _ d => d)
    (fun _ _ _ _ _ d => d)
    (fun _ _ _ _ _ _ d => d)
    (fun _ d => d)
    (fun _ _ d => d)
    (fun _ _ _ _ _ _ d => d)
    (fun _ d => d)
    (fun _ _ _ _ d => d)
    (fun _ d => d)
    (fun _ _ _ d => d)
    (fun _ _ _ d => d)
    (fun _ _ d => d)
    () (fun _ _ _ _ => ()) v f d

/-- Of a text. -/
def AV.strF (v : AV) (f : (Nat → Nat → Rs)) (d : Rs) : Rs :=
  AV.rec (motive_1 := fun _ => (Nat → Nat → Rs) → Rs → Rs) (motive_2 := fun _ => Unit)
    (fun _ d => d)
    (fun _ _ d => d)
    (fun _ _ _ d => d)
    (fun n c f _ => f n c)
    (fun _ d => d)
    (fun _ _ _ d => d)
    (fun _ d => d)
    (fun _ _ _ _ _ d => d)
    (fun _ _ _ _ _ d => d)
    (fun _ _ _ _ _ _ d => d)
    (fun _ d => d)
    (fun _ _ d => d)
    (fun _ _ _ _ _ _ d => d)
    (fun _ d => d)
    (fun _ _ _ _ d => d)
    (fun _ d => d)
    (fun _ _ _ d => d)
    (fun _ _ _ d => d)
    (fun _ _ d => d)
    () (fun _ _ _ _ => ()) v f d

/-- Of an aggregate. -/
def AV.aggF (v : AV) (f : (List AV → Rs)) (d : Rs) : Rs :=
  AV.rec (motive_1 := fun _ => (List AV → Rs) → Rs → Rs) (motive_2 := fun _ => Unit)
    (fun _ d => d)
    (fun _ _ d => d)
    (fun _ _ _ d => d)
    (fun _ _ _ d => d)
    (fun _ d => d)
    (fun _ _ _ d => d)
    (fun _ d => d)
    (fun _ _ _ _ _ d => d)
    (fun _ _ _ _ _ d => d)
    (fun _ _ _ _ _ _ d => d)
    (fun _ d => d)
    (fun _ _ d => d)
    (fun _ _ _ _ _ _ d => d)
    (fun _ d => d)
    (fun _ _ _ _ d => d)
    (fun _ d => d)
    (fun l _ f _ => f l)
    (fun _ _ _ d => d)
    (fun _ _ d => d)
    () (fun _ _ _ _ => ()) v f d

/-- Of several values. -/
def AV.tupF (v : AV) (f : (List AV → Rs)) (d : Rs) : Rs :=
  AV.rec (motive_1 := fun _ => (List AV → Rs) → Rs → Rs) (motive_2 := fun _ => Unit)
    (fun _ d => d)
    (fun _ _ d => d)
    (fun _ _ _ d => d)
    (fun _ _ _ d => d)
    (fun _ d => d)
    (fun _ _ _ d => d)
    (fun _ d => d)
    (fun _ _ _ _ _ d => d)
    (fun _ _ _ _ _ d => d)
    (fun _ _ _ _ _ _ d => d)
    (fun _ d => d)
    (fun _ _ d => d)
    (fun _ _ _ _ _ _ d => d)
    (fun _ d => d)
    (fun _ _ _ _ d => d)
    (fun _ d => d)
    (fun _ _ _ d => d)
    (fun l _ f _ => f l)
    (fun _ _ d => d)
    () (fun _ _ _ _ => ()) v f d

/-- Of a truth. -/
def AV.boolF (v : AV) (t : Rs) (f : Rs) (d : Rs) : Rs :=
  AV.rec (motive_1 := fun _ => Rs → Rs → Rs → Rs) (motive_2 := fun _ => Unit)
    (fun _ _ d => d)
    (fun b t f _ => (Bool.rec f t b))
    (fun _ _ _ _ d => d)
    (fun _ _ _ _ d => d)
    (fun _ _ d => d)
    (fun _ _ _ _ d => d)
    (fun _ _ d => d)
    (fun _ _ _ _ _ _ d => d)
    (fun _ _ _ _ _ _ d => d)
    (fun _ _ _ _ _ _ _ d => d)
    (fun _ _ d => d)
    (fun _ _ _ d => d)
    (fun _ _ _ _ _ _ _ d => d)
    (fun _ _ d => d)
    (fun _ _ _ _ _ d => d)
    (fun _ _ d => d)
    (fun _ _ _ _ d => d)
    (fun _ _ _ _ d => d)
    (fun _ _ _ d => d)
    () (fun _ _ _ _ => ()) v t f d

/-- Of a guard. -/
def AV.guardF (v : AV) (t : Rs) (f : Rs) (u : Rs) (d : Rs) : Rs :=
  AV.rec (motive_1 := fun _ => Rs → Rs → Rs → Rs → Rs) (motive_2 := fun _ => Unit)
    (fun _ _ u _ => u)
    (fun b t f _ _ => (Bool.rec f t b))
    (fun _ _ _ _ _ d => d)
    (fun _ _ _ _ _ d => d)
    (fun _ _ _ d => d)
    (fun _ _ _ _ _ d => d)
    (fun _ _ _ d => d)
    (fun _ _ _ _ _ _ _ d => d)
    (fun _ _ _ _ _ _ _ d => d)
    (fun _ _ _ _ _ _ _ _ d => d)
    (fun _ _ _ d => d)
    (fun _ _ _ _ d => d)
    (fun _ _ _ _ _ _ _ _ d => d)
    (fun _ _ _ d => d)
    (fun _ _ _ _ _ _ d => d)
    (fun _ _ _ d => d)
    (fun _ _ _ _ _ d => d)
    (fun _ _ _ _ _ d => d)
    (fun _ _ _ _ d => d)
    () (fun _ _ _ _ => ()) v t f u d

/-- Of a slice. -/
def AV.slF (v : AV) (f : (Pos → Nat → Nat → Rs)) (z : Rs) (d : Rs) : Rs :=
  AV.rec (motive_1 := fun _ => (Pos → Nat → Nat → Rs) → Rs → Rs → Rs) (motive_2 := fun _ => Unit)
    (fun _ _ d => d)
    (fun _ _ _ d => d)
    (fun _ _ _ _ d => d)
    (fun _ _ _ _ d => d)
    (fun _ _ d => d)
    (fun _ _ _ _ d => d)
    (fun _ z _ => z)
    (fun b off len _ f _ _ => f b off len)
    (fun b off len _ f _ _ => f b off len)
    (fun _ _ _ _ _ _ z _ => z)
    (fun _ _ d => d)
    (fun _ _ _ d => d)
    (fun _ _ _ _ _ _ _ d => d)
    (fun _ _ d => d)
    (fun _ _ _ _ _ d => d)
    (fun _ _ d => d)
    (fun _ _ _ _ d => d)
    (fun _ _ _ _ d => d)
    (fun _ _ _ d => d)
    () (fun _ _ _ _ => ()) v f z d

/-- The cells of a value. -/
def AV.cellsF (v : AV) (w : AV) (f : (List AV → Rs)) (d : Rs) : Rs :=
  AV.rec (motive_1 := fun _ => AV → (List AV → Rs) → Rs → Rs) (motive_2 := fun _ => Unit)
    (fun _ _ d => d)
    (fun _ w f _ => f [w])
    (fun _ _ w f _ => f [w])
    (fun _ _ w f _ => f [w])
    (fun w f _ => f [w])
    (fun _ _ w f _ => f [w])
    (fun w f _ => f [w])
    (fun _ _ _ _ w f _ => f [w])
    (fun _ _ _ _ w f _ => f [w])
    (fun _ _ _ _ _ w f _ => f [w])
    (fun w f _ => f [w])
    (fun _ w f _ => f [w])
    (fun _ _ _ _ _ w f _ => f [w])
    (fun w f _ => f [w])
    (fun _ _ _ w f _ => f [w])
    (fun w f _ => f [w])
    (fun l _ _ f _ => f l)
    (fun _ _ _ _ d => d)
    (fun _ w f _ => f [w])
    () (fun _ _ _ _ => ()) v w f d

/-- A number, laid out. -/
def natF (n : Nat) (k : Nat → Rs) : Rs := Nat.rec (motive := fun _ => (Nat → Rs) → Rs) (fun k => k 0) (fun m _ k => k (Nat.succ m)) n k

/-- A truth, as a value. -/
def truthF (b : Bool) (k : AV → Rs) : Rs := Bool.rec (motive := fun _ => (AV → Rs) → Rs) (fun k => k (.bool false)) (fun k => k (.bool true)) b k

/-- A test. -/
def ifF (b : Bool) (t f : Rs) : Rs := Bool.rec (motive := fun _ => Rs → Rs → Rs) (fun _ f => f) (fun t _ => t) b t f

/-- Are two kinds the same? -/
def kindF (k j : IntKind) (t f : Rs) : Rs :=
  IntKind.rec (motive := fun _ => IntKind → Rs → Rs → Rs)
    (fun j t f => IntKind.rec (motive := fun _ => Rs → Rs → Rs) (fun t _ => t) (fun _ f => f) (fun _ f => f) (fun _ f => f) (fun _ f => f) (fun _ f => f) (fun _ f => f) (fun _ f => f) j t f)
    (fun j t f => IntKind.rec (motive := fun _ => Rs → Rs → Rs) (fun _ f => f) (fun t _ => t) (fun _ f => f) (fun _ f => f) (fun _ f => f) (fun _ f => f) (fun _ f => f) (fun _ f => f) j t f)
    (fun j t f => IntKind.rec (motive := fun _ => Rs → Rs → Rs) (fun _ f => f) (fun _ f => f) (fun t _ => t) (fun _ f => f) (fun _ f => f) (fun _ f => f) (fun _ f => f) (fun _ f => f) j t f)
    (fun j t f => IntKind.rec (motive := fun _ => Rs → Rs → Rs) (fun _ f => f) (fun _ f => f) (fun _ f => f) (fun t _ => t) (fun _ f => f) (fun _ f => f) (fun _ f => f) (fun _ f => f) j t f)
    (fun j t f => IntKind.rec (motive := fun _ => Rs → Rs → Rs) (fun _ f => f) (fun _ f => f) (fun _ f => f) (fun _ f => f) (fun t _ => t) (fun _ f => f) (fun _ f => f) (fun _ f => f) j t f)
    (fun j t f => IntKind.rec (motive := fun _ => Rs → Rs → Rs) (fun _ f => f) (fun _ f => f) (fun _ f => f) (fun _ f => f) (fun _ f => f) (fun t _ => t) (fun _ f => f) (fun _ f => f) j t f)
    (fun j t f => IntKind.rec (motive := fun _ => Rs → Rs → Rs) (fun _ f => f) (fun _ f => f) (fun _ f => f) (fun _ f => f) (fun _ f => f) (fun _ f => f) (fun t _ => t) (fun _ f => f) j t f)
    (fun j t f => IntKind.rec (motive := fun _ => Rs → Rs → Rs) (fun _ f => f) (fun _ f => f) (fun _ f => f) (fun _ f => f) (fun _ f => f) (fun _ f => f) (fun _ f => f) (fun t _ => t) j t f)
    k j t f

/-- A trie's entry. -/
def getO (p : Pos) (t : Tr AV) (k : AV → Rs) (d : Rs) : Rs :=
  Pos.rec (motive := fun _ => Tr AV → (AV → Rs) → Rs → Rs)
    (fun t k d => Tr.rec (motive := fun _ => (AV → Rs) → Rs → Rs) (fun _ d => d)
      (fun _ v _ _ _ k d => Option.rec (motive := fun _ => (AV → Rs) → Rs → Rs) (fun _ d => d) (fun a k _ => k a) v k d) t k d)
    (fun _ ih t k d => Tr.rec (motive := fun _ => (Tr AV → (AV → Rs) → Rs → Rs) → (AV → Rs) → Rs → Rs) (fun _ _ d => d) (fun l _ _ _ _ ih k d => ih l k d) t ih k d)
    (fun _ ih t k d => Tr.rec (motive := fun _ => (Tr AV → (AV → Rs) → Rs → Rs) → (AV → Rs) → Rs → Rs) (fun _ _ d => d) (fun _ _ r _ _ ih k d => ih r k d) t ih k d)
    p t k d
def getH (p : Pos) (t : Tr Obj) (k : Obj → Rs) (d : Rs) : Rs :=
  Pos.rec (motive := fun _ => Tr Obj → (Obj → Rs) → Rs → Rs)
    (fun t k d => Tr.rec (motive := fun _ => (Obj → Rs) → Rs → Rs) (fun _ d => d)
      (fun _ v _ _ _ k d => Option.rec (motive := fun _ => (Obj → Rs) → Rs → Rs) (fun _ d => d) (fun a k _ => k a) v k d) t k d)
    (fun _ ih t k d => Tr.rec (motive := fun _ => (Tr Obj → (Obj → Rs) → Rs → Rs) → (Obj → Rs) → Rs → Rs) (fun _ _ d => d) (fun l _ _ _ _ ih k d => ih l k d) t ih k d)
    (fun _ ih t k d => Tr.rec (motive := fun _ => (Tr Obj → (Obj → Rs) → Rs → Rs) → (Obj → Rs) → Rs → Rs) (fun _ _ d => d) (fun _ _ r _ _ ih k d => ih r k d) t ih k d)
    p t k d

/-- A trie with a new entry. -/
def setO (p : Pos) (x : AV) (t : Tr AV) (k : Tr AV → Rs) : Rs :=
  Pos.rec (motive := fun _ => AV → Tr AV → (Tr AV → Rs) → Rs)
    (fun x t k => Tr.rec (motive := fun _ => AV → (Tr AV → Rs) → Rs) (fun x k => k (.n .leaf (some x) .leaf)) (fun l _ r _ _ x k => k (.n l (some x) r)) t x k)
    (fun _ ih x t k => Tr.rec (motive := fun _ => (AV → Tr AV → (Tr AV → Rs) → Rs) → AV → (Tr AV → Rs) → Rs)
      (fun ih x k => ih x .leaf fun l => k (.n l none .leaf)) (fun l v r _ _ ih x k => ih x l fun l => k (.n l v r)) t ih x k)
    (fun _ ih x t k => Tr.rec (motive := fun _ => (AV → Tr AV → (Tr AV → Rs) → Rs) → AV → (Tr AV → Rs) → Rs)
      (fun ih x k => ih x .leaf fun r => k (.n .leaf none r)) (fun l v r _ _ ih x k => ih x r fun r => k (.n l v r)) t ih x k)
    p x t k
def setH (p : Pos) (x : Obj) (t : Tr Obj) (k : Tr Obj → Rs) : Rs :=
  Pos.rec (motive := fun _ => Obj → Tr Obj → (Tr Obj → Rs) → Rs)
    (fun x t k => Tr.rec (motive := fun _ => Obj → (Tr Obj → Rs) → Rs) (fun x k => k (.n .leaf (some x) .leaf)) (fun l _ r _ _ x k => k (.n l (some x) r)) t x k)
    (fun _ ih x t k => Tr.rec (motive := fun _ => (Obj → Tr Obj → (Tr Obj → Rs) → Rs) → Obj → (Tr Obj → Rs) → Rs)
      (fun ih x k => ih x .leaf fun l => k (.n l none .leaf)) (fun l v r _ _ ih x k => ih x l fun l => k (.n l v r)) t ih x k)
    (fun _ ih x t k => Tr.rec (motive := fun _ => (Obj → Tr Obj → (Tr Obj → Rs) → Rs) → Obj → (Tr Obj → Rs) → Rs)
      (fun ih x k => ih x .leaf fun r => k (.n .leaf none r)) (fun l v r _ _ ih x k => ih x r fun r => k (.n l v r)) t ih x k)
    p x t k

/-- The cell of a list. -/
def nthF (n : Nat) (l : List AV) (k : AV → Rs) (d : Rs) : Rs :=
  Nat.rec (motive := fun _ => List AV → (AV → Rs) → Rs → Rs) (fun l k d => List.rec (motive := fun _ => (AV → Rs) → Rs → Rs) (fun _ d => d) (fun a _ _ k _ => k a) l k d)
    (fun _ ih l k d => List.rec (motive := fun _ => (List AV → (AV → Rs) → Rs → Rs) → (AV → Rs) → Rs → Rs) (fun _ _ d => d) (fun _ t _ ih k d => ih t k d) l ih k d) n l k d

/-- A list from a place on. -/
def dropF (n : Nat) (l : List AV) (k : List AV → Rs) : Rs :=
  Nat.rec (motive := fun _ => List AV → (List AV → Rs) → Rs) (fun l k => k l)
    (fun _ ih l k => List.rec (motive := fun _ => (List AV → (List AV → Rs) → Rs) → (List AV → Rs) → Rs) (fun _ k => k []) (fun _ t _ ih k => ih t k) l ih k) n l k

/-- So many of a list. -/
def takeF (n : Nat) (l : List AV) (k : List AV → Rs) (d : Rs) : Rs :=
  Nat.rec (motive := fun _ => List AV → (List AV → Rs) → Rs → Rs) (fun _ k _ => k [])
    (fun _ ih l k d => List.rec (motive := fun _ => (List AV → (List AV → Rs) → Rs → Rs) → (List AV → Rs) → Rs → Rs) (fun _ _ d => d) (fun a t _ ih k d => ih t (fun x => k (a :: x)) d) l ih k d) n l k d

/-- Other cells over a list's first ones. -/
def overF (vs l : List AV) (k : List AV → Rs) (d : Rs) : Rs :=
  List.rec (motive := fun _ => List AV → (List AV → Rs) → Rs → Rs) (fun l k _ => k l)
    (fun v _ ih l k d => List.rec (motive := fun _ => AV → (List AV → (List AV → Rs) → Rs → Rs) → (List AV → Rs) → Rs → Rs) (fun _ _ _ d => d) (fun _ t _ v ih k d => ih t (fun x => k (v :: x)) d) l v ih k d) vs l k d

/-- Other cells in a list, from a place on. -/
def spliceF (off : Nat) (vs l : List AV) (k : List AV → Rs) (d : Rs) : Rs :=
  Nat.rec (motive := fun _ => List AV → List AV → (List AV → Rs) → Rs → Rs) (fun vs l k d => overF vs l k d)
    (fun _ ih vs l k d => List.rec (motive := fun _ => (List AV → List AV → (List AV → Rs) → Rs → Rs) → List AV → (List AV → Rs) → Rs → Rs) (fun _ _ _ d => d) (fun a t _ ih vs k d => ih vs t (fun x => k (a :: x)) d) l ih vs k d) off vs l k d

/-- Has a list just so many? -/
def lenF (n : Nat) (l : List AV) (t f : Rs) : Rs :=
  Nat.rec (motive := fun _ => List AV → Rs → Rs → Rs) (fun l t f => List.rec (motive := fun _ => Rs → Rs → Rs) (fun t _ => t) (fun _ _ _ _ f => f) l t f)
    (fun _ ih l t f => List.rec (motive := fun _ => (List AV → Rs → Rs → Rs) → Rs → Rs → Rs) (fun _ _ f => f) (fun _ l _ ih t f => ih l t f) l ih t f) n l t f

/-- Of a row of cells. -/
def Obj.rowF (o : Obj) (f : TypeId → Row → Bool → Nat → Bool → Rs) (d : Rs) : Rs :=
  Obj.rec (motive := fun _ => (TypeId → Row → Bool → Nat → Bool → Rs) → Rs → Rs) (fun e r t z p f _ => f e r t z p) (fun _ _ d => d) (fun _ _ _ _ _ d => d) (fun _ _ d => d) (fun _ d => d) o f d

def Row.csF (r : Row) (f : List AV → Rs) (g : Nat → Nat → Rs) : Rs :=
  Row.rec (motive := fun _ => (List AV → Rs) → (Nat → Nat → Rs) → Rs) (fun x f _ => f x) (fun n c _ g => g n c) r f g

/-- What a call came to. -/
def Rs.valF (r : Rs) (k : KV) : Rs := Rs.rec (motive := fun _ => KV → Rs) (fun _ => .fail) (fun v h nx k => k v h nx) r k

/- Operands. -/
inductive GW where
  | mk (g : FG)
inductive GsW where
  | mk (g : FGs)
inductive PW where
  | mk (p : FP)
inductive FW where
  | mk (f : FOp)

def gTab (hi : GHi) (lo : GLo) : FG := fun e k => hi e fun b => lo b k
def gOver (p : Pos) : FG := fun e k => En.rec (motive := fun _ => Pos → (AV → Rs) → Rs) (fun _ _ _ _ _ _ _ _ _ _ _ _ _ _ _ _ r p k => getO p r k (k .undef)) e p k
def tmpW (t : Nat) : GW := match Nat.blt t 256 with
  | true => match gLoW (Nat.mod t 16), gHiW (Nat.div t 16) with
    | .mk lo, .mk hi => .mk (gTab hi lo)
  | false => .mk (gOver (posOf t))
def gConst (a : AV) : FG := fun _ k => k a
def gFail : FG := fun _ _ => .fail

def compG (gv : Nat → Option Pos) : Operand → GW
  | .tmp t => tmpW t
  | .const v => match ofVal v with
    | some a => a.forceK fun a => .mk (gConst a)
    | none => .mk gFail
  | .global g => match gv g with
    | some b => .mk (gConst (.ptr b 0))
    | none => .mk gFail
  | .func f => .mk (gConst (.func (.func f) [] []))

def gsNil : FGs := fun _ k => k []
def gsCons (g : FG) (gs : FGs) : FGs := fun e k => g e fun v => gs e fun l => k (v :: l)
def gsOne (g : FG) : FGs := fun e k => g e fun v => k [v]

def compGs (gv : Nat → Option Pos) : List Operand → GsW
  | [] => .mk gsNil
  | x :: l => match compG gv x, compGs gv l with
    | .mk g, .mk gs => .mk (gsCons g gs)

def pNone : FP := fun _ e k => k e
def pTab (hi : SHi) (lo : SLo) : FP := fun v e k => hi lo v e k
def pOver (p : Pos) : FP := fun v e k => En.rec (motive := fun _ => Pos → AV → (En → Rs) → Rs) (fun x0 x1 x2 x3 x4 x5 x6 x7 x8 x9 x10 x11 x12 x13 x14 x15 r p v k => setO p v r fun r => k ⟨x0, x1, x2, x3, x4, x5, x6, x7, x8, x9, x10, x11, x12, x13, x14, x15, r⟩) e p v k
def putW (t : Nat) : PW := match Nat.blt t 256 with
  | true => match sLoW (Nat.mod t 16), sHiW (Nat.div t 16) with
    | .mk lo, .mk hi => .mk (pTab hi lo)
  | false => .mk (pOver (posOf t))
def pFail : FP := fun _ _ _ => .fail

def compP (nt : Nat) : Option Tmp → PW
  | none => .mk pNone
  | some d => match Nat.blt d nt with
    | true => putW d
    | false => .mk pFail

/- Operations on one value, and on two. -/
def op0 (g : FG) (p : FP) : FOp := fun _ e h nx k => g e fun x => p x e fun e => k e h nx
def op1 (g : FG) (c : F1) (p : FP) : FOp := fun _ e h nx k => g e fun x => c x h nx fun v h nx => p v e fun e => k e h nx
def op2 (g g' : FG) (c : F2) (p : FP) : FOp := fun _ e h nx k => g e fun x => g' e fun y => c x y h nx fun v h nx => p v e fun e => k e h nx
def opCall (f : FuncId) (gs : FGs) (p : FP) : FOp := fun cl e h nx k => gs e fun xs => Rs.valF (cl f xs h nx) fun v h nx => p v e fun e => k e h nx

def cellF (off : Nat) (r : Row) (k : AV → Rs) : Rs :=
  r.csF (fun x => nthF off x k .fail) (fun n c => ifF (Nat.blt off n) (natF (Nat.mod (Nat.shiftRight c (Nat.mul 8 off)) 256) fun u => k (.int .u8 u)) .fail)
def cLoad : F1 := fun x h nx k => x.ptrF (fun b off => getH b h (fun o => o.rowF (fun _ r _ _ _ => cellF off r fun v => k v h nx) .fail) .fail) .fail
def cLoadA (n : Nat) : F1 := fun x h nx k => x.ptrF (fun b off => getH b h (fun o => o.rowF (fun _ r _ _ _ => r.csF (fun x => dropF off x fun x => takeF n x (fun l => k (.agg l) h nx) .fail) (fun _ _ => .fail)) .fail) .fail) .fail
def cStore (n : Nat) : F2 := fun a v h nx k => a.ptrF (fun b off => getH b h (fun o => o.rowF (fun e r t z p => v.cellsF v (fun l => lenF n l (ifF (Nat.ble z off)
  (r.csF (fun x => spliceF off l x (fun x => setH b (.row e (.cs x) t z p) h fun h => k .undef h nx) .fail) (fun _ _ => .fail)) .fail) .fail) .fail) .fail) .fail) .fail
def cFieldAddr (n : Nat) : F1 := fun x h nx k => x.ptrF (fun b off => natF (Nat.add off n) fun o => k (.ptr b o) h nx) .fail
def cField (n : Nat) : F1 := fun x h nx k => x.aggF (fun l => nthF n l (fun v => k v h nx) .fail) .fail
def cFieldA (n m : Nat) : F1 := fun x h nx k => x.aggF (fun l => dropF n l fun l => takeF m l (fun l => k (.agg l) h nx) .fail) .fail
def cExtract (n : Nat) : F1 := fun x h nx k => x.tupF (fun l => nthF n l (fun v => k v h nx) .fail) .fail
/-- An index, below the half of all. -/
def idxF (i : AV) (k : Nat → Rs) : Rs := i.intF (fun kd u => ifF (natN kd u) (k u) .fail) .fail
def cIndexAddr (m : Nat) : F2 := fun x i h nx k => idxF i fun n => x.slF (fun b off len => ifF (Nat.blt n len) (natF (Nat.add off (Nat.mul n m)) fun o => k (.ptr b o) h nx) .fail) .fail .fail
def cIndexAddrA (len m : Nat) : F2 := fun x i h nx k => idxF i fun n => x.ptrF (fun b off => ifF (Nat.blt n len) (natF (Nat.add off (Nat.mul n m)) fun o => k (.ptr b o) h nx) .fail) .fail
def cIndexS : F2 := fun x i h nx k => idxF i fun n => x.strF (fun m d => ifF (Nat.blt n m) (natF (Nat.mod (Nat.shiftRight d (Nat.mul 8 n)) 256) fun u => k (.int .u8 u) h nx) .fail) .fail

/-- Two numbers of a kind. -/
def twoF (kd : IntKind) (x y : AV) (k : Nat → Nat → Rs) : Rs :=
  x.intF (fun a u => y.intF (fun b v => kindF kd a (kindF kd b (k u v) .fail) .fail) .fail) .fail
def cArith (kd : IntKind) (f : Nat → Nat → Nat) : F2 := fun x y h nx k => twoF kd x y fun u v => natF (f u v) fun w => k (.int kd w) h nx
def cTest (kd : IntKind) (f : Nat → Nat → Bool) : F2 := fun x y h nx k => twoF kd x y fun u v => truthF (f u v) fun v => k v h nx
def cConv (kd jd : IntKind) : F1 := fun x h nx k => x.intF (fun a u => kindF jd a (natF (Nat.mod u (md kd)) fun w => k (.int kd w) h nx) .fail) .fail
def cLen : F1 := fun x h nx k => x.slF (fun _ _ len => ifF (Nat.blt len 9223372036854775808) (k (.int .i64 len) h nx) .fail) (k (.int .i64 0) h nx) .fail
def cLenS : F1 := fun x h nx k => x.strF (fun n _ => ifF (Nat.blt n 9223372036854775808) (k (.int .i64 n) h nx) .fail) .fail

def cQuo (kd : IntKind) (f : Nat → Nat → Nat) : F2 := fun x y h nx k => twoF kd x y fun u v => ifF (natN kd u) (ifF (natN kd v) (ifF (Nat.beq v 0) .fail (natF (f u v) fun w => k (.int kd w) h nx)) .fail) .fail
def outF (o : Option AV) (k : AV → Rs) : Rs := match o with
  | some v => v.forceK k
  | none => .fail
def cShift (op : BinOp) : F2 := fun x y h nx k => x.intF (fun a u => y.intF (fun b v => outF (shInt op a u b v) fun v => k v h nx) .fail) .fail
def cConvW (kd jd : IntKind) : F1 := fun x h nx k => x.intF (fun a u => kindF jd a (ifF (natN jd u) (k (.int kd u) h nx) .fail) .fail) .fail
def cNot : F1 := fun x h nx k => x.boolF (k (.bool false) h nx) (k (.bool true) h nx) .fail
def cNil : F1 := fun x h nx k => x.ptrF (fun b off => k (.ptr b off) h nx) (outF (evNil x) fun v => k v h nx)
def cStr (op : BinOp) : F2 := fun x y h nx k => x.strF (fun n a => y.strF (fun m b => outF (binStr op n a m b) fun v => k v h nx) .fail) .fail

/-- Any operation. -/
def fGen (P : Program) (gv : Nat → Option Pos) (ex : FuncId → List AV → Option AV) (o : Oper) (p : FP) : FOp := fun cl e h nx k =>
  match evAs (evA gv e) o.op.operands.toList with
  | some xs => match evO P ex cl o xs h nx with
    | .val v h nx => v.forceK fun v => p v e fun e => k e h nx
    | .fail => .fail
  | none => .fail

def wGen (P : Program) (gv : Nat → Option Pos) (ex : FuncId → List AV → Option AV) (nt : Nat) (o : Oper) : FW := match compP nt o.dst with
  | .mk p => .mk (fGen P gv ex o p)
def w0 (gv : Nat → Option Pos) (nt : Nat) (d : Option Tmp) (x : Operand) : FW := match compG gv x, compP nt d with
  | .mk g, .mk p => .mk (op0 g p)
def w1 (gv : Nat → Option Pos) (nt : Nat) (d : Option Tmp) (x : Operand) (c : F1) : FW := match compG gv x, compP nt d with
  | .mk g, .mk p => .mk (op1 g c p)
def w2 (gv : Nat → Option Pos) (nt : Nat) (d : Option Tmp) (x y : Operand) (c : F2) : FW := match compG gv x, compG gv y, compP nt d with
  | .mk g, .mk g', .mk p => .mk (op2 g g' c p)

def kindOf (P : Program) (t : TypeId) : Option IntKind := match P.underlying t with
  | some (.int k) => some k
  | _ => none

/-- An operation on two numbers of a kind. -/
def intOp (op : BinOp) (kd : IntKind) : Option F2 :=
  match op with
  | .add => some (cArith kd fun u v => Nat.mod (Nat.add u v) (md kd))
  | .sub => some (cArith kd (subN kd))
  | .mul => some (cArith kd fun u v => Nat.mod (Nat.mul u v) (md kd))
  | .eql => some (cTest kd fun u v => Nat.beq (ordN kd u) (ordN kd v))
  | .neq => some (cTest kd fun u v => !Nat.beq (ordN kd u) (ordN kd v))
  | .lss => some (cTest kd fun u v => Nat.blt (ordN kd u) (ordN kd v))
  | .leq => some (cTest kd fun u v => Nat.ble (ordN kd u) (ordN kd v))
  | .gtr => some (cTest kd fun u v => Nat.blt (ordN kd v) (ordN kd u))
  | .geq => some (cTest kd fun u v => Nat.ble (ordN kd v) (ordN kd u))
  | .quo => some (cQuo kd Nat.div)
  | .rem => some (cQuo kd Nat.mod)
  | .and => some (cArith kd fun u v => Nat.land (Nat.mod u (md kd)) (Nat.mod v (md kd)))
  | .or => some (cArith kd fun u v => Nat.lor (Nat.mod u (md kd)) (Nat.mod v (md kd)))
  | .xor => some (cArith kd fun u v => Nat.xor (Nat.mod u (md kd)) (Nat.mod v (md kd)))
  | .shl => some (cShift .shl)
  | .shr => some (cShift .shr)
  | _ => none

/-- A call's operation, if it is known which function is entered. -/
def callable (P : Program) (f : FuncId) : Bool := match P.funcs[f]? with
  | some fn => match fn.body with
    | some _ => !(fn.name == "runtime.NumGoroutine")
    | none => false
  | none => false

/-- What kind of operation it is: its operands, and its function; of a function: may it hang on memory? -/
inductive CW where
  | mv (x : Operand)
  | one (x : Operand) (c : F1) (dep : Bool)
  | two (x y : Operand) (c : F2) (dep : Bool)
  | eff (x y : Operand) (c : F2)
  | call (f : FuncId) (xs : List Operand)
  | gen

def coreW (P : Program) (o : Oper) : CW :=
  match o.op with
  | .move x => .mv x
  | .assign x => .mv x
  | .load t x => match isAggT P t with
    | some true => .one x (cLoadA (P.cellsOf t)) true
    | some false => .one x cLoad true
    | none => .gen
  | .store t a v => match P.info? t with
    | some _ => .eff a v (cStore (P.cellsOf t))
    | none => .gen
  | .fieldAddr t x f => match P.underlying t with
    | some (.struct fs) => match fs[f]? with
      | some fd => match P.info? fd.type, Nat.beq (P.cellsOf fd.type) 0 with
        | some _, false => .one x (cFieldAddr fd.offset) false
        | _, _ => .gen
      | none => .gen
    | _ => .gen
  | .field t x f => match P.underlying t with
    | some (.struct fs) => match fs[f]? with
      | some fd => match isAggT P fd.type with
        | some true => .one x (cFieldA fd.offset (P.cellsOf fd.type)) false
        | some false => .one x (cField fd.offset) false
        | none => .gen
      | none => .gen
    | _ => .gen
  | .extract x i => .one x (cExtract i) false
  | .nilCheck x => .one x cNil false
  | .indexAddr t x i => match P.underlying t with
    | some (.array len e) => match P.info? e with
      | some _ => .two x i (cIndexAddrA len (P.cellsOf e)) false
      | none => .gen
    | some (.slice e) => match P.info? e with
      | some _ => .two x i (cIndexAddr (P.cellsOf e)) false
      | none => .gen
    | _ => .gen
  | .index t x i => match P.underlying t with
    | some .string => .two x i cIndexS false
    | _ => .gen
  | .binOp op t x y _ => match P.underlying t with
    | some (.int kd) => match intOp op kd with
      | some c => .two x y c false
      | none => .gen
    | some .string => .two x y (cStr op) false
    | _ => .gen
  | .unOp op _ x => match op with
    | .not => .one x cNot false
    | _ => .gen
  | .convert s d x => match kindOf P s, kindOf P d with
    | some jd, some kd => match Nat.ble kd.bits jd.bits with
      | true => .one x (cConv kd jd) false
      | false => .one x (cConvW kd jd) false
    | _, _ => .gen
  | .call c => match c.callee with
    | .value (.func f) => match callable P f with
      | true => .call f c.args.toList
      | false => .gen
    | .builtin .len => match c.argTypes[0]?, c.args.toList with
      | some t, [x] => match P.underlying t with
        | some .string => .one x cLenS false
        | some (.slice _) => .one x cLen false
        | _ => .gen
      | _, _ => .gen
    | _ => .gen
  | _ => .gen

/-- An operation's function. -/
def bodyW (P : Program) (gv : Nat → Option Pos) (ex : FuncId → List AV → Option AV) (nt : Nat) (o : Oper) : FW :=
  match coreW P o with
  | .mv x => w0 gv nt o.dst x
  | .one x c _ => w1 gv nt o.dst x c
  | .two x y c _ => w2 gv nt o.dst x y c
  | .eff x y c => w2 gv nt o.dst x y c
  | .call f xs => match compGs gv xs, compP nt o.dst with
    | .mk gs, .mk p => .mk (opCall f gs p)
  | .gen => wGen P gv ex nt o

def fGuard (q : FG) (f : FOp) (p : FP) : FOp := fun cl e h nx k => q e fun g => g.guardF (f cl e h nx k) (p .undef e fun e => k e h nx) (p .undef e fun e => k e h nx) .fail
def fGuardN (q : FG) (f : FOp) (p : FP) : FOp := fun cl e h nx k => q e fun g => g.guardF (p .undef e fun e => k e h nx) (f cl e h nx k) (p .undef e fun e => k e h nx) .fail
def fFail : FOp := fun _ _ _ _ _ => .fail

def compO (P : Program) (gv : Nat → Option Pos) (ex : FuncId → List AV → Option AV) (ops : Array Oper) (nt : Nat) (o : Oper) : FW :=
  match o.guard with
  | none => bodyW P gv ex nt o
  | some (j, want) => match ops[j]? with
    | some g => match g.dst with
      | some d => match bodyW P gv ex nt o, compP nt o.dst, tmpW d with
        | .mk f, .mk p, .mk q => match want with
          | true => .mk (fGuard q f p)
          | false => .mk (fGuardN q f p)
      | none => .mk fFail
    | none => .mk fFail

inductive FOps where
  | nil
  | cons (f : FOp) (l : FOps)

def compL (P : Program) (gv : Nat → Option Pos) (ex : FuncId → List AV → Option AV) (ops : Array Oper) (nt : Nat) (l : List Oper) : FOps :=
  List.rec (motive := fun _ => FOps) .nil (fun o _ ih => FW.rec (motive := fun _ => FOps) (fun f => .cons f ih) (compO P gv ex ops nt o)) l

def runL (l : FOps) : FOp :=
  FOps.rec (motive := fun _ => FOp) (fun _ e h nx k => k e h nx) (fun f _ ih cl e h nx k => f cl e h nx fun e h nx => ih cl e h nx k) l

/- Regions whose order is open: what their operations yield stands in a table of its own. -/
abbrev KD := En → Tr Obj → Pos → Rs
abbrev FG2 := En → En → (AV → Rs) → Rs
abbrev FGs2 := En → En → (List AV → Rs) → Rs
abbrev FD := Callee → En → En → Tr Obj → Pos → KD → Rs
abbrev FH := En → En → List (Tr Obj × Pos) → Rs → Rs
abbrev FA := En → En → (En → Rs) → Rs

inductive G2W where
  | mk (g : FG2)
inductive Gs2W where
  | mk (g : FGs2)
inductive DW where
  | mk (f : FD)
inductive HW where
  | mk (f : FH)
inductive AW where
  | mk (f : FA)

def g2V (g : FG) : FG2 := fun V _ k => g V k
def g2E (g : FG) : FG2 := fun _ e k => g e k

def compG2 (gv : Nat → Option Pos) (all : List (Inf × Nat)) (x : Inf) : Operand → G2W
  | .tmp t => match writer t all with
    | none => match tmpW t with
      | .mk g => .mk (g2E g)
    | some y => match inMask x.m y.1.i with
      | true => match tmpW y.1.i with
        | .mk g => .mk (g2V g)
      | false => match tmpW t with
        | .mk g => .mk (g2E g)
  | o => match compG gv o with
    | .mk g => .mk (g2E g)

def gs2Nil : FGs2 := fun _ _ k => k []
def gs2Cons (g : FG2) (gs : FGs2) : FGs2 := fun V e k => g V e fun v => gs V e fun l => k (v :: l)
def compGs2 (gv : Nat → Option Pos) (all : List (Inf × Nat)) (x : Inf) : List Operand → Gs2W
  | [] => .mk gs2Nil
  | y :: l => match compG2 gv all x y, compGs2 gv all x l with
    | .mk g, .mk gs => .mk (gs2Cons g gs)

def d0 (g : FG2) (p : FP) : FD := fun _ V e h nx k => g V e fun x => p x V fun V => k V h nx
def d1 (g : FG2) (c : F1) (p : FP) : FD := fun _ V e h nx k => g V e fun x => c x h nx fun v h nx => p v V fun V => k V h nx
def d2 (g g' : FG2) (c : F2) (p : FP) : FD := fun _ V e h nx k => g V e fun x => g' V e fun y => c x y h nx fun v h nx => p v V fun V => k V h nx
def dCall (f : FuncId) (gs : FGs2) (p : FP) : FD := fun cl V e h nx k => gs V e fun xs => Rs.valF (cl f xs h nx) fun v h nx => p v V fun V => k V h nx
def dGen (P : Program) (gv : Nat → Option Pos) (ex : FuncId → List AV → Option AV) (ops : Array Oper) (all : List (Inf × Nat)) (x : Inf) (p : FP) : FD := fun cl V e h nx k =>
  match evOne P gv ex cl ops all e x V h nx with
  | .val v h nx => v.forceK fun v => p v V fun V => k V h nx
  | .fail => .fail
def dGuard (q : FG) (f : FD) (p : FP) : FD := fun cl V e h nx k => q V fun g => g.guardF (f cl V e h nx k) (p .undef V fun V => k V h nx) (p .undef V fun V => k V h nx) .fail
def dGuardN (q : FG) (f : FD) (p : FP) : FD := fun cl V e h nx k => q V fun g => g.guardF (p .undef V fun V => k V h nx) (f cl V e h nx k) (p .undef V fun V => k V h nx) .fail
def dFail : FD := fun _ _ _ _ _ _ => .fail

/-- One operation of such a region. -/
def compD0 (P : Program) (gv : Nat → Option Pos) (ex : FuncId → List AV → Option AV) (ops : Array Oper) (all : List (Inf × Nat)) (x : Inf) (p : FP) : DW :=
  match coreW P x.o with
  | .mv y => match compG2 gv all x y with
    | .mk g => .mk (d0 g p)
  | .one y c _ => match compG2 gv all x y with
    | .mk g => .mk (d1 g c p)
  | .two y z c _ => match compG2 gv all x y, compG2 gv all x z with
    | .mk g, .mk g' => .mk (d2 g g' c p)
  | .eff y z c => match compG2 gv all x y, compG2 gv all x z with
    | .mk g, .mk g' => .mk (d2 g g' c p)
  | .call f ys => match compGs2 gv all x ys with
    | .mk gs => .mk (dCall f gs p)
  | .gen => .mk (dGen P gv ex ops all x p)

def compD (P : Program) (gv : Nat → Option Pos) (ex : FuncId → List AV → Option AV) (ops : Array Oper) (all : List (Inf × Nat)) (x : Inf) : DW :=
  match putW x.i with
  | .mk p => match x.o.guard with
    | none => compD0 P gv ex ops all x p
    | some (j, want) => match ops[j]? with
      | some g => match g.dst with
        | some _ => match compD0 P gv ex ops all x p, tmpW j with
          | .mk f, .mk q => match want with
            | true => .mk (dGuard q f p)
            | false => .mk (dGuardN q f p)
        | none => .mk dFail
      | none => .mk dFail

inductive FDs where
  | nil
  | cons (f : FD) (l : FDs)
inductive FSs where
  | nil
  | cons (s : FDs) (l : FSs)
inductive FHs where
  | nil
  | cons (f : FH) (l : FHs)
inductive FAs where
  | nil
  | cons (f : FA) (l : FAs)

def compDs (P : Program) (gv : Nat → Option Pos) (ex : FuncId → List AV → Option AV) (ops : Array Oper) (all : List (Inf × Nat)) (l : List Inf) : FDs :=
  List.rec (motive := fun _ => FDs) .nil (fun x _ ih => DW.rec (motive := fun _ => FDs) (fun f => .cons f ih) (compD P gv ex ops all x)) l
def compSs (P : Program) (gv : Nat → Option Pos) (ex : FuncId → List AV → Option AV) (ops : Array Oper) (all : List (Inf × Nat)) (l : List (List Inf)) : FSs :=
  List.rec (motive := fun _ => FSs) .nil (fun s _ ih => .cons (compDs P gv ex ops all s) ih) l

def runDs (l : FDs) : FD :=
  FDs.rec (motive := fun _ => FD) (fun _ V _ h nx k => k V h nx) (fun f _ ih cl V e h nx k => f cl V e h nx fun V h nx => ih cl V e h nx k) l
abbrev KS := En → Tr Obj → Pos → List (Tr Obj × Pos) → Rs
def runSs (l : FSs) (cl : Callee) (V e : En) (h : Tr Obj) (nx : Pos) (hs : List (Tr Obj × Pos)) (k : KS) : Rs :=
  FSs.rec (motive := fun _ => Callee → En → En → Tr Obj → Pos → List (Tr Obj × Pos) → KS → Rs) (fun _ V _ h nx hs k => k V h nx hs)
    (fun s _ ih cl V e h nx hs k => runDs s cl V e h nx fun V h nx => ih cl V e h nx ((h, nx) :: hs) k) l cl V e h nx hs k

/-- Are two values spelt the same? -/
def AV.sameF (u v : AV) (t : Rs) : Rs :=
  u.intF (fun k a => v.intF (fun j b => kindF k j (ifF (Nat.beq a b) t .fail) .fail) .fail)
    (u.ptrF (fun b n => v.ptrF (fun c m => ifF (Pos.eq b c) (ifF (Nat.beq n m) t .fail) .fail) .fail) (ifF (AV.eq u v) t .fail))

/-- A test in each memory between two stages: the last stage first, with its number. -/
def betweenF (lo hi : Nat) (f : Tr Obj → Rs → Rs) (hs : List (Tr Obj × Pos)) (n : Nat) (t : Rs) : Rs :=
  List.rec (motive := fun _ => Nat → Rs → Rs) (fun _ t => t)
    (fun s _ ih n t => ifF (Nat.ble lo (Nat.sub n 1)) (ifF (Nat.ble (Nat.sub n 1) hi) (Prod.rec (motive := fun _ => Rs → Rs) (fun h _ t => f h t) s (ih (Nat.sub n 1) t)) (ih (Nat.sub n 1) t)) (ih (Nat.sub n 1) t)) hs n t

def hNone : FH := fun _ _ _ t => t
def h1 (v : FG) (g : FG2) (c : F1) (lo hi n : Nat) : FH := fun V e hs t => v V fun v => g V e fun x => betweenF lo hi (fun h t => c x h .h fun u _ _ => u.sameF v t) hs n t
def h2 (v : FG) (g g' : FG2) (c : F2) (lo hi n : Nat) : FH := fun V e hs t => v V fun v => g V e fun x => g' V e fun y => betweenF lo hi (fun h t => c x y h .h fun u _ _ => u.sameF v t) hs n t
def hGen (P : Program) (gv : Nat → Option Pos) (ops : Array Oper) (all : List (Inf × Nat)) (n : Nat) (x : Inf × Nat) : FH := fun V e hs t => ifF (steadyOp P gv ops all e V hs n x) t .fail
def hGuard (q : FG) (f : FH) : FH := fun V e hs t => q V fun g => g.guardF (f V e hs t) t t .fail
def hGuardN (q : FG) (f : FH) : FH := fun V e hs t => q V fun g => g.guardF t (f V e hs t) t .fail

def compH0 (P : Program) (gv : Nat → Option Pos) (ops : Array Oper) (all : List (Inf × Nat)) (n : Nat) (x : Inf × Nat) : HW :=
  match coreW P x.1.o with
  | .one y c true => match compG2 gv all x.1 y, tmpW x.1.i with
    | .mk g, .mk v => .mk (h1 v g c x.1.r x.2 n)
  | .two y z c true => match compG2 gv all x.1 y, compG2 gv all x.1 z, tmpW x.1.i with
    | .mk g, .mk g', .mk v => .mk (h2 v g g' c x.1.r x.2 n)
  | .gen => .mk (hGen P gv ops all n x)
  | _ => .mk hNone

def compH (P : Program) (gv : Nat → Option Pos) (ops : Array Oper) (all : List (Inf × Nat)) (n : Nat) (x : Inf × Nat) : HW :=
  match isDep x.1.o && !isEff x.1.o with
  | false => .mk hNone
  | true => match compH0 P gv ops all n x with
    | .mk f => match x.1.o.guard with
      | none => .mk f
      | some (j, want) => match ops[j]? with
        | some g => match g.dst with
          | some _ => match tmpW j with
            | .mk q => match want with
              | true => .mk (hGuard q f)
              | false => .mk (hGuardN q f)
          | none => .mk (hGen P gv ops all n x)
        | none => .mk (hGen P gv ops all n x)

def compHs (P : Program) (gv : Nat → Option Pos) (ops : Array Oper) (all : List (Inf × Nat)) (n : Nat) (l : List (Inf × Nat)) : FHs :=
  List.rec (motive := fun _ => FHs) .nil (fun x _ ih => HW.rec (motive := fun _ => FHs) (fun f => .cons f ih) (compH P gv ops all n x)) l
def runHs (l : FHs) : FH :=
  FHs.rec (motive := fun _ => FH) (fun _ _ _ t => t) (fun f _ ih V e hs t => f V e hs (ih V e hs t)) l

def aNone : FA := fun _ e k => k e
def aPut (v : FG) (p : FP) : FA := fun V e k => v V fun v => p v e k
def compA (nt : Nat) (x : Inf × Nat) : AW := match x.1.o.dst with
  | none => .mk aNone
  | some d => match tmpW x.1.i, compP nt (some d) with
    | .mk v, .mk p => .mk (aPut v p)
def compAs (nt : Nat) (l : List (Inf × Nat)) : FAs :=
  List.rec (motive := fun _ => FAs) .nil (fun x _ ih => AW.rec (motive := fun _ => FAs) (fun f => .cons f ih) (compA nt x)) l
def runAs (l : FAs) : FA :=
  FAs.rec (motive := fun _ => FA) (fun _ e k => k e) (fun f _ ih V e k => f V e fun e => ih V e k) l

/-- A region whose order is open. -/
def fDraw (s : FSs) (c : FHs) (a : FAs) : FOp := fun cl e h nx k =>
  runSs s cl .new e h nx [] fun V h nx hs => runHs c V e hs (runAs a V e fun e => k e h nx)

def drawW (P : Program) (gv : Nat → Option Pos) (ex : FuncId → List AV → Option AV) (ops : Array Oper) (nt : Nat) : FW :=
  match plan ops with
  | some (all, stages) => .mk (fDraw (compSs P gv ex ops all stages) (compHs P gv ops all stages.length all) (compAs nt all))
  | none => .mk fFail

/- Code. -/
inductive FC where
  | skip
  | ops (l : FOps)
  | draw (f : FOp)
  | seq (a b : FC)
  | cond (g : FG) (a b : FC)
  | block (id : Nat) (b : FC)
  | loop (b : FC)
  | exit (id : Nat)
  | ret
  | bad

def comp (P : Program) (gv : Nat → Option Pos) (ex : FuncId → List AV → Option AV) (nt : Nat) (code : Code) : FC :=
  Code.rec (motive := fun _ => FC)
    .skip
    (fun _ ops draw => Bool.rec (.ops (compL P gv ex ops nt ops.toList)) (FW.rec (motive := fun _ => FC) (fun f => .draw f) (drawW P gv ex ops nt)) draw)
    (fun _ _ a b => .seq a b)
    (fun c _ _ a b => GW.rec (motive := fun _ => FC) (fun g => .cond g a b) (compG gv c))
    (fun id _ b => .block id b)
    (fun _ b => .loop b)
    (fun _ _ _ _ _ _ => .bad)
    (fun id => .exit id)
    (fun _ b => b)
    (fun _ => .skip)
    (fun _ => .bad)
    .ret
    (fun _ => .bad)
    code

abbrev FRun := Callee → En → Tr Obj → Pos → KN → KX → Rs

def exitF (id : Nat) (x : Ex) (t f : Rs) : Rs :=
  Ex.rec (motive := fun _ => Nat → Rs → Rs → Rs) (fun _ _ f => f) (fun id' id t f => ifF (Nat.beq id' id) t f) (fun _ _ f => f) x id t f

def rounds : Nat := 1000000

/-- Over and over. -/
def againF (n : Nat) (f : KN → KN) : KN := Nat.rec (motive := fun _ => KN) (fun _ _ _ => .fail) (fun _ again => f again) n

def runF (c : FC) : FRun :=
  FC.rec (motive := fun _ => FRun)
    (fun _ e h nx kn _ => kn e h nx)
    (fun l cl e h nx kn _ => runL l cl e h nx kn)
    (fun f cl e h nx kn _ => f cl e h nx kn)
    (fun _ _ iha ihb cl e h nx kn kx => iha cl e h nx (fun e h nx => ihb cl e h nx kn kx) kx)
    (fun g _ _ iha ihb cl e h nx kn kx => g e fun v => v.boolF (iha cl e h nx kn kx) (ihb cl e h nx kn kx) .fail)
    (fun id _ ih cl e h nx kn kx => ih cl e h nx kn fun x e h nx => exitF id x (kn e h nx) (kx x e h nx))
    (fun _ ih cl e h nx _ kx => againF rounds (fun again e h nx => ih cl e h nx again kx) e h nx)
    (fun id _ e h nx _ kx => kx (.exit id) e h nx)
    (fun _ e h nx _ kx => kx .ret e h nx)
    (fun _ _ _ _ _ _ => .fail)
    c

/- Functions. -/
/-- What a function yields. -/
def resF (P : Program) (rs : List ResultVar) : En → Tr Obj → Pos → Rs := fun e h nx =>
  match resA P e h rs with
  | some l => match l with
    | [v] => .val v h nx
    | l => .val (.tup l) h nx
  | none => .fail
def resOne (g : FG) : En → Tr Obj → Pos → Rs := fun e h nx => g e fun v => .val v h nx

inductive RW where
  | mk (f : En → Tr Obj → Pos → Rs)
def compR (P : Program) (rs : List ResultVar) : RW := match rs with
  | [.tmp t] => match tmpW t with
    | .mk g => .mk (resOne g)
  | rs => .mk (resF P rs)

/-- Places, one behind the other. -/
def placesF (n i : Nat) : List FP := Nat.rec (motive := fun _ => Nat → List FP) (fun _ => []) (fun _ ih i => PW.rec (motive := fun _ => List FP) (fun p => p :: ih (Nat.succ i)) (putW i)) n i

def argsF (xs : List AV) (ps : List FP) (e : En) (k : En → Rs) : Rs :=
  List.rec (motive := fun _ => List FP → En → (En → Rs) → Rs) (fun _ e k => k e)
    (fun x _ ih ps e k => List.rec (motive := fun _ => AV → (List FP → En → (En → Rs) → Rs) → En → (En → Rs) → Rs) (fun _ _ _ _ => .fail)
      (fun p ps _ x ih e k => p x e fun e => ih ps e k) ps x ih e k) xs ps e k

inductive FnW where
  | none
  | mk (ps : List FP) (body : FC) (res : En → Tr Obj → Pos → Rs)
  | sum (s : List AV → Tr Obj → Pos → Rs)

/-- What is known of functions: of those without a body, and of others, whole. -/
structure Lib where
  ex : FuncId → List AV → Option AV
  sm : FuncId → Option (List AV → Tr Obj → Pos → Rs)

def compF (P : Program) (gv : Nat → Option Pos) (lb : Lib) (f : FuncId) : FnW :=
  match lb.sm f with
  | some s => .sum s
  | none => match P.funcs[f]? with
    | some fn => match fn.body with
      | some body => match compR P fn.results.toList with
        | .mk r => .mk (placesF fn.ntmps 0) (comp P gv lb.ex fn.ntmps body) r
      | none => .none
    | none => .none

/-- Code behind whose end a function's values are told. -/
def runB (body : FC) (res : En → Tr Obj → Pos → Rs) (cl : Callee) (e : En) (h : Tr Obj) (nx : Pos) : Rs :=
  runF body cl e h nx res fun x e h nx => Ex.rec (motive := fun _ => (En → Tr Obj → Pos → Rs) → En → Tr Obj → Pos → Rs) (fun _ _ _ _ => .fail) (fun _ _ _ _ _ => .fail) (fun res e h nx => res e h nx) x res e h nx

def runFn (P : Program) (gv : Nat → Option Pos) (lb : Lib) (cl : Callee) : Callee := fun f args h nx =>
  FnW.rec (motive := fun _ => Callee → List AV → Tr Obj → Pos → Rs) (fun _ _ _ _ => .fail) (fun ps body res cl args h nx => argsF args ps .new fun e => runB body res cl e h nx) (fun s _ args h nx => s args h nx) (compF P gv lb f) cl args h nx

def callN (P : Program) (gv : Nat → Option Pos) (lb : Lib) (n : Nat) : Callee :=
  Nat.rec (motive := fun _ => Callee) (fun _ _ _ _ => .fail) (fun _ cl => runFn P gv lb cl) n

end
end Go.Ev
