/- An abstract machine for Go code: values without addresses, rows as lists, and a decision tree of what a piece of code does. -/
import GoSem.Dispatch
import Derived.Orders
namespace Go.Ab

/-- A decision tree. -/
inductive Tree (α : Type) : Type 1
  | leaf (a : α)
  | fail
  | ite (b : Bool) (t e : Tree α)
  | opt (β : Type) (o : Option β) (f : β → Tree α)

namespace Tree
variable {α β : Type}
def bind : Tree α → (α → Tree β) → Tree β
  | .leaf a, f => f a
  | .fail, _ => .fail
  | .ite b t e, f => .ite b (t.bind f) (e.bind f)
  | .opt γ o g, f => .opt γ o fun x => (g x).bind f
def map (f : α → β) : Tree α → Tree β
  | .leaf a => .leaf (f a)
  | .fail => .fail
  | .ite b t e => .ite b (t.map f) (e.map f)
  | .opt γ o g => .opt γ o fun x => (g x).map f
def run : Tree α → Option α
  | .leaf a => some a
  | .fail => none
  | .ite b t e => if b = true then t.run else e.run
  | .opt _ o g => o.bind fun x => (g x).run
end Tree

/-- One cell. 'U t': the elements of rows of the type t. -/
inductive C (U : Nat → Type) : Type
  | unk
  | skp
  | kb (b : Bool)
  | bool (b : Bool)
  | int (k : IntKind) (n : Int)
  | str (s : List UInt8)
  | nils
  | sl (t : Nat) (l : List (U t)) (full : Bool)
  | row (b v : Nat)
  | own (b v lo len : Nat)
  | ptr (b o : Nat)
  | elp (b v i sub : Nat)
  | ap (b o t i sub : Nat)
  | xp (t : Nat) (x : U t) (sub : Nat)
  | arr (t n : Nat) (l : List (U t))
  | fn (f : Nat) (first caps : List (C U))
  | nilp
  /-- a map of numbers, taken for good, in which these are true -/
  | mp (l : List Int)

inductive V (U : Nat → Type) : Type
  | one (c : C U)
  | agg (cs : List (C U))
inductive D (U : Nat → Type) : Type
  | v (x : V U)
  | tup (vs : List (V U))
inductive Blk (U : Nat → Type) : Type
  | dead
  | cells (cs : List (C U))
  | row (t ver : Nat) (l : List (U t))
structure St (U : Nat → Type) where
  tm : List (Nat × D U)
  hp : List (Blk U)

/-- What is told of the element types. -/
structure Cd (U : Nat → Type) where
  has : Nat → Bool
  enc : (t : Nat) → U t → List (C U)
  dec : (t : Nat) → List (C U) → Option (U t)
  zero : (t : Nat) → Option (U t)
  /-- elements that are bytes -/
  bytes : (t : Nat) → List (U t) → Option (List UInt8)
  ofBytes : (t : Nat) → List UInt8 → Option (List (U t))
  deq : (t : Nat) → Option (DecidableEq (U t))

/-- What a function's call comes to: a typed answer, and how it is told. -/
structure FnOut (U : Nat → Type) : Type 1 where
  β : Type
  o : Option β
  out : β → Tree (List (V U) × List (Blk U))
inductive Ex
  | norm
  | exit (id : Nat)
  | ret
  deriving DecidableEq
structure LpOut (U : Nat → Type) : Type 1 where
  β : Type
  o : Option β
  out : β → Tree (Ex × St U)

/-- A loop's head: the temporaries that are kept at it, and behind the loop; whether empty slices become rows. -/
structure Hd where
  keep : List Nat
  xkeep : List Nat
  own : Bool
/-- which blocks an operation of a drawn region reads or changes (a hint, checked when it is done) -/
inductive Fp where
  | none
  | rd (l : List Nat)
  | wr (l : List Nat) (n : Nat)
structure Env (U : Nat → Type) : Type 1 where
  P : Program
  cd : Cd U
  /-- functions by their numbers: does it leave memory alone; what it comes to -/
  fns : Nat → Option (Bool × (List (V U) → List (Blk U) → Option (FnOut U)))
  /-- loops by their places: the temporaries that are kept at its head; what it comes to -/
  lps : Nat → Option (Hd × (St U → Option (LpOut U)))
  /-- regions before which all rows are taken for good -/
  frz : Nat → Bool
  /-- the function's temporaries -/
  nt : Nat
  /-- the blocks that it is handed -/
  n0 : Nat
  fps : Nat → Nat → Fp := fun _ _ => .none

section
variable {U : Nat → Type}

/-! ### lists -/
def getA {α : Type} : List (Nat × α) → Nat → Option α
  | [], _ => none
  | (k, x) :: l, i => bif Nat.beq k i then some x else getA l i
def putA {α : Type} : List (Nat × α) → Nat → α → List (Nat × α)
  | [], i, y => [(i, y)]
  | (k, x) :: l, i, y => bif Nat.beq k i then (k, y) :: l else bif Nat.blt i k then (i, y) :: (k, x) :: l else (k, x) :: putA l i y
def nth {α : Type} : List α → Nat → Option α
  | [], _ => none
  | x :: l, i => bif Nat.beq i 0 then some x else nth l (i - 1)
def setN {α : Type} : List α → Nat → α → List α
  | [], _, _ => []
  | x :: l, i, y => bif Nat.beq i 0 then y :: l else x :: setN l (i - 1) y
def memN : List Nat → Nat → Bool
  | [], _ => false
  | x :: l, i => bif Nat.beq x i then true else memN l i
/-- the place of a number in a list -/
def posN : List Nat → Nat → Nat → Option Nat
  | [], _, _ => none
  | x :: l, i, j => bif Nat.beq x i then some j else posN l i (j + 1)
def optL {α : Type} : List (Option α) → Option (List α)
  | [] => some []
  | none :: _ => none
  | some x :: l => match optL l with | some r => some (x :: r) | none => none

/-! ### cells -/
def szC (P : Program) : C U → Nat
  | .arr t n _ => n * P.cellsOf t
  | _ => 1
def szL (P : Program) : List (C U) → Nat
  | [] => 0
  | c :: l => szC P c + szL P l
def dropC (P : Program) : List (C U) → Nat → Option (List (C U))
  | [], o => bif Nat.beq o 0 then some [] else none
  | c :: cs, o => bif Nat.beq o 0 then some (c :: cs) else bif Nat.ble (szC P c) o then dropC P cs (o - szC P c) else none
def takeC (P : Program) : List (C U) → Nat → Option (List (C U))
  | [], o => bif Nat.beq o 0 then some [] else none
  | c :: cs, o => bif Nat.beq o 0 then some [] else bif Nat.ble (szC P c) o then (match takeC P cs (o - szC P c) with | some r => some (c :: r) | none => none) else none
def cutC (P : Program) (cs : List (C U)) (o n : Nat) : Option (List (C U)) :=
  match dropC P cs o with
  | some r => takeC P r n
  | none => none
/-- cells from o on replaced -/
def putC (P : Program) (new : List (C U)) (n : Nat) : List (C U) → Nat → Option (List (C U))
  | [], o => bif Nat.beq o 0 then (bif Nat.beq n 0 then some new else none) else none
  | c :: cs, o => bif Nat.beq o 0 then (match dropC P (c :: cs) n with | some r => some (new ++ r) | none => none)
    else bif Nat.ble (szC P c) o then (match putC P new n cs (o - szC P c) with | some r => some (c :: r) | none => none) else none
/-- the cell that begins at o -/
def atC (P : Program) (cs : List (C U)) (o : Nat) : Option (C U) :=
  match dropC P cs o with
  | some (c :: _) => some c
  | _ => none

def isAggB (P : Program) (t : Nat) : Bool := match P.underlying t with
  | some (.struct _) => true
  | some (.array _ _) => true
  | _ => false
def V.cells : V U → List (C U)
  | .one c => [c]
  | .agg cs => cs
def mkV (P : Program) (t : Nat) (cs : List (C U)) : Option (V U) :=
  match P.underlying t with
  | none => none
  | some _ => bif isAggB P t then some (.agg cs) else match cs with
    | [.arr _ _ _] => none
    | [c] => some (.one c)
    | _ => none

/-- the innermost element type of arrays, and how many there are -/
def leafOf (P : Program) : Nat → Nat → Nat × Nat
  | 0, t => (t, 1)
  | f + 1, t => match P.underlying t with
    | some (.array n e) => let r := leafOf P f e; (r.1, n * r.2)
    | _ => (t, 1)
/-- do an array's parts fit -/
def arrOk (P : Program) : Nat → Nat → Bool
  | 0, _ => true
  | f + 1, t => match P.underlying t with
    | some (.array n e) => bif (P.underlying e).isSome && Nat.beq (P.cellsOf t) (n * P.cellsOf e) then arrOk P f e else false
    | _ => true
/-- zero values -/
def azero (P : Program) (cd : Cd U) : Nat → Nat → Option (List (C U))
  | 0, _ => none
  | f + 1, t => match P.underlying t with
    | some .bool => some [.bool false]
    | some (.int k) => some [.int k 0]
    | some .string => some [.str []]
    | some (.slice e) => some [.sl e [] true]
    | some (.pointer _) => some [.nilp]
    | some (.struct fs) => fs.toList.foldr (fun f' acc => match azero P cd f f'.type, acc with | some a, some b => some (a ++ b) | _, _ => none) (some [])
    | some (.array n e) =>
      let r := leafOf P f e
      bif cd.has r.1 then (match cd.zero r.1 with | some z => some [.arr r.1 (n * r.2) (List.replicate (n * r.2) z)] | none => none)
      else (match azero P cd f e with | some a => some ((List.replicate n a).flatten) | none => none)
    | _ => none

def leaf (cd : Cd U) : C U → List (C U)
  | .arr t _ l => l.flatMap (cd.enc t)
  | c => [c]
def leaves (cd : Cd U) (cs : List (C U)) : List (C U) := cs.flatMap (leaf cd)
def okAB : List (C U) → Bool
  | [] => true
  | .arr _ n l :: cs => bif Nat.beq l.length n then okAB cs else false
  | _ :: cs => okAB cs
/-- is a cell told of a value -/
def match1 : C U → Value → Bool
  | .bool b, .bool c => b == c
  | .int k n, .int k' m => decide (k = k') && decide (n = m)
  | .str s, .string t => decide (s = t.data.toList)
  | .sl _ [] _, .slice none 0 0 => true
  | .nilp, .pointer none => true
  | _, _ => false
def matchL : List (C U) → List Value → Bool
  | [], [] => true
  | c :: cs, v :: vs => bif match1 c v then matchL cs vs else false
  | _, _ => false
def zeroC (P : Program) (cd : Cd U) (t : Nat) : Option (List (C U)) := match azero P cd 12 t, P.info? t with
  | some cs, some i => (match i.zero with
    | some z => bif okAB cs && matchL (leaves cd cs) z.cells.toList then some cs else none
    | none => none)
  | _, _ => none
def zeroE (P : Program) (cd : Cd U) (t : Nat) : Option (U t) := match cd.zero t, P.info? t with
  | some x, some i => (match i.zero with
    | some z => bif matchL (cd.enc t x) z.cells.toList then some x else none
    | none => none)
  | _, _ => none

def ofVal1 : Value → C U
  | .bool b => .kb b
  | .int k n => .int k n
  | .string s => .str s.data.toList
  | .slice none 0 0 => .nils
  | .pointer none => .nilp
  | _ => .unk
def ofVal : Value → D U
  | .agg cs => .v (.agg (cs.toList.map ofVal1))
  | v => .v (.one (ofVal1 v))
def ev (tm : List (Nat × D U)) : Operand → D U
  | .tmp t => match getA tm t with | some d => d | none => .v (.one .unk)
  | .const v => ofVal v
  | .global _ => .v (.one .unk)
  | .func f => .v (.one (.fn f [] []))
/-- a nil slice is given its type -/
def typC (P : Program) (t : Nat) : C U → C U
  | .nils => match P.underlying t with | some (.slice e) => .sl e [] true | _ => .nils
  | c => c
def typV (P : Program) (t : Nat) : V U → V U
  | .one c => .one (typC P t c)
  | v => v
def typD (P : Program) (t : Nat) : D U → D U
  | .v x => .v (typV P t x)
  | d => d

/-! ### what an operation does -/
inductive K (U : Nat → Type) : Type 1
  | pur (t : Tree (D U))
  | alo (t : Tree (Blk U)) (mk : Nat → C U)
  | lod (b : Nat) (f : Blk U → Tree (D U))
  | wri (f : List (Blk U) → Nat → Tree (D U × List (Blk U)))

def one (c : C U) : Tree (D U) := .leaf (.v (.one c))
def ofO {α : Type} : Option α → Tree α
  | some a => .leaf a
  | none => .fail
def asB : C U → Option Bool
  | .kb b => some b
  | .bool b => some b
  | _ => none

/-- '==' at a type of plain fields -/
def eqT (P : Program) (cd : Cd U) (deep : Bool) : Nat → Nat → List (C U) → List (C U) → Option Bool
  | 0, _, _, _ => none
  | f + 1, t, xs, ys => match P.underlying t with
    | some .bool => (match xs, ys with
      | [a], [b] => (match asB a, asB b with | some x, some y => some (x == y) | _, _ => none)
      | _, _ => none)
    | some (.int _) => (match xs, ys with
      | [.int k a], [.int k' b] => bif decide (k = k') then some (decide (a = b)) else none
      | _, _ => none)
    | some .string => (match xs, ys with
      | [.str a], [.str b] => some (decide (a = b))
      | _, _ => none)
    | some (.struct fs) => bif P.stoodInHeld t then none else fields (eqT P cd deep f) fs.toList xs ys
    | some (.array n e) => (match xs, ys with
      | [.arr te m a], [.arr te' m' b] => if h : te = te' then (match cd.deq te' with
        | some d => let r := leafOf P 9 e; bif deep && arrOk P 10 t && Nat.beq te' r.1 && Nat.beq m (n * r.2) && Nat.beq m' m then some (@decide (h ▸ a = b) (@instDecidableEqList _ d _ _)) else none
        | none => none) else none
      | _, _ => none)
    | _ => none
where fields (g : Nat → List (C U) → List (C U) → Option Bool) : List Field → List (C U) → List (C U) → Option Bool
  | [], _, _ => some true
  | [f], xs, ys => bif f.name == "_" then none else (match cutC P xs f.offset (P.cellsOf f.type), cutC P ys f.offset (P.cellsOf f.type) with | some a, some b => g f.type a b | _, _ => none)
  | f :: fs, xs, ys => bif f.name == "_" then none else (match cutC P xs f.offset (P.cellsOf f.type), cutC P ys f.offset (P.cellsOf f.type) with
    | some a, some b => (match g f.type a b, fields g fs xs ys with | some x, some y => some (x && y) | _, _ => none)
    | _, _ => none)
def eqV (P : Program) (cd : Cd U) (t : Nat) (x y : V U) : Option Bool :=
  bif P.eqGuardType P.depth t then none else bif isAggB P t then (match x, y with | .agg a, .agg b => eqT P cd true 8 t a b | _, _ => none) else (match x, y with | .one a, .one b => eqT P cd true 8 t [a] [b] | _, _ => none)

def binK (P : Program) (cd : Cd U) (t : Nat) (op : BinOp) : V U → V U → K U
  | .one (.int k a), .one (.int k' b) => match op with
    | .shl => .pur (.ite (decide (0 ≤ b)) (one (.int k (k.wrap (a * 2 ^ (min b.toNat k.bits))))) .fail)
    | .shr => .pur (.ite (decide (0 ≤ b)) (one (.int k (a.fdiv (2 ^ (min b.toNat k.bits))))) .fail)
    | op => bif decide (k = k') then (match op with
      | .add => .pur (one (.int k (k.wrap (a + b))))
      | .sub => .pur (one (.int k (k.wrap (a - b))))
      | .mul => .pur (one (.int k (k.wrap (a * b))))
      | .quo => .pur (.ite (decide (b = 0)) .fail (one (.int k (k.wrap (a.tdiv b)))))
      | .rem => .pur (.ite (decide (b = 0)) .fail (one (.int k (a.tmod b))))
      | .and => .pur (one (.int k (k.wrap ((BitVec.ofInt k.bits a &&& BitVec.ofInt k.bits b).toNat))))
      | .or => .pur (one (.int k (k.wrap ((BitVec.ofInt k.bits a ||| BitVec.ofInt k.bits b).toNat))))
      | .xor => .pur (one (.int k (k.wrap ((BitVec.ofInt k.bits a ^^^ BitVec.ofInt k.bits b).toNat))))
      | .andNot => .pur (one (.int k (k.wrap ((BitVec.ofInt k.bits a &&& ~~~BitVec.ofInt k.bits b).toNat))))
      | .eql => .pur (one (.bool (decide (a = b))))
      | .neq => .pur (one (.bool (!decide (a = b))))
      | .lss => .pur (one (.bool (decide (a < b))))
      | .leq => .pur (one (.bool (decide (a ≤ b))))
      | .gtr => .pur (one (.bool (decide (b < a))))
      | .geq => .pur (one (.bool (decide (b ≤ a))))
      | _ => .pur .fail) else .pur .fail
  | .one (.str a), .one (.str b) => match op with
    | .add => .pur (.ite (decide (a.length + b.length ≤ 9223372036854775807)) (one (.str (a ++ b))) .fail)
    | .eql => .pur (one (.bool (decide (a = b))))
    | .neq => .pur (one (.bool (!decide (a = b))))
    | _ => .pur .fail
  | x, y => match op with
    | .eql => .pur (match eqV P cd t x y with | some b => one (.bool b) | none => .fail)
    | .neq => .pur (match eqV P cd t x y with | some b => one (.bool (!b)) | none => .fail)
    | _ => .pur .fail
def unK (op : UnOp) : V U → K U
  | .one (.int k a) => match op with
    | .neg => .pur (one (.int k (k.wrap (0 - a))))
    | .xor => .pur (one (.int k (k.wrap ((BitVec.ofInt k.bits (if k.signed then -1 else k.max) ^^^ BitVec.ofInt k.bits a).toNat))))
    | _ => .pur .fail
  | .one (.kb b) => match op with | .not => .pur (one (.kb (!b))) | _ => .pur .fail
  | .one (.bool b) => match op with | .not => .pur (one (.bool (!b))) | _ => .pur .fail
  | _ => .pur .fail

/-- the elements of a row, from lo on -/
def rowAt (v lo : Nat) : Blk U → Option ((t : Nat) × List (U t))
  | .row t v' l => bif Nat.beq v v' then some ⟨t, l.drop lo⟩ else none
  | _ => none
/-- an element taken out of a list, under Go's bounds -/
def elemT {α β : Type} (l : List α) (i : Int) (f : α → Tree β) : Tree β :=
  .ite (decide (0 ≤ i)) (.opt α l[i.toNat]? f) .fail
/-- is t a type of slices of te -/
def slOf (P : Program) (t te : Nat) : Bool := match P.underlying t with
  | some (.slice e) => bif Nat.beq e te then (P.underlying e).isSome else false
  | _ => false
def indexAddrK (P : Program) (t : Nat) : V U → V U → K U
  | .one (.sl te l _), .one (.int _ i) => .pur (bif slOf P t te then elemT l i fun x => one (.xp te x 0) else .fail)
  | .one (.row b v), .one (.int _ i) => .lod b fun
    | .row te v' l => bif slOf P t te && Nat.beq v v' then .ite (decide (0 ≤ i)) (.ite (decide (i < (l.length : Int))) (one (.elp b v i.toNat 0)) .fail) .fail else .fail
    | _ => .fail
  | .one (.own b v lo len), .one (.int _ i) => .lod b fun
    | .row te v' _ => bif slOf P t te && Nat.beq v v' then .ite (decide (0 ≤ i)) (.ite (decide (i < (len : Int))) (one (.elp b v (lo + i.toNat) 0)) .fail) .fail else .fail
    | _ => .fail
  | .one (.ptr b o), .one (.int _ i) => match P.underlying t with
    | some (.array n e) =>
      let r := leafOf P 9 e
      .lod b fun
        | .cells cs => match atC P cs o with
          | some (.arr t' _ _) => bif arrOk P 10 t && Nat.beq t' r.1 then .ite (decide (0 ≤ i)) (.ite (decide (i < (n : Int))) (one (.ap b o t' (i.toNat * r.2) 0)) .fail) .fail else .fail
          | _ => .fail
        | _ => .fail
    | _ => .pur .fail
  | .one (.ap b o te j 0), .one (.int _ i) => match P.underlying t with
    | some (.array n e) =>
      let r := leafOf P 9 e
      .pur (bif arrOk P 10 t && Nat.beq te r.1 then .ite (decide (0 ≤ i)) (.ite (decide (i < (n : Int))) (one (.ap b o te (j + i.toNat * r.2) 0)) .fail) .fail else .fail)
    | _ => .pur .fail
  | _, _ => .pur .fail
/-- a part of an element -/
def partE (P : Program) (cd : Cd U) (t te : Nat) (x : U te) (sub : Nat) : Tree (D U) :=
  match cutC P (cd.enc te x) sub (P.cellsOf t) with
  | some cs => (match mkV P t cs with | some v => .leaf (.v v) | none => .fail)
  | none => .fail
/-- is t an array of elements te: how many -/
def manyOf (P : Program) (t te : Nat) : Option Nat := match P.underlying t with
  | some (.array _ _) => let r := leafOf P 9 t; bif arrOk P 9 t && Nat.beq r.1 te then some r.2 else none
  | _ => none
def loadK (P : Program) (cd : Cd U) (t : Nat) : V U → K U
  | .one (.ptr b o) => .lod b fun
    | .cells cs => match cutC P cs o (P.cellsOf t) with
      | some r => (match mkV P t r with | some v => .leaf (.v v) | none => .fail)
      | none => .fail
    | _ => .fail
  | .one (.elp b v i sub) => .lod b fun
    | .row te v' l => bif Nat.beq v v' then .opt (U te) l[i]? fun x => partE P cd t te x sub else .fail
    | _ => .fail
  | .one (.xp te x sub) => .pur (partE P cd t te x sub)
  | .one (.ap b o te i sub) => .lod b fun
    | .cells cs => match atC P cs o with
      | some (.arr t' _ l) => bif Nat.beq t' te then (match manyOf P t te with
        | some m => bif Nat.beq sub 0 then one' (.agg [.arr t' m ((l.drop i).take m)]) m i l else .fail
        | none => .opt (U t') l[i]? fun x => partE P cd t t' x sub) else .fail
      | _ => .fail
    | _ => .fail
  | _ => .pur .fail
where one' {te : Nat} (v : V U) (m i : Nat) (l : List (U te)) : Tree (D U) := .ite (decide (i + m ≤ l.length)) (.leaf (.v v)) .fail

def solid : C U → Bool
  | .unk => false
  | .skp => false
  | _ => true
def solidL : List (C U) → Bool
  | [] => true
  | c :: l => bif solid c then solidL l else false
def fitL (P : Program) (cs : List (C U)) (n : Nat) : Bool := bif Nat.beq (szL P cs) n then solidL cs else false
/-- a part of an element is changed -/
def setE (P : Program) (cd : Cd U) (te : Nat) (x : U te) (sub n : Nat) (new : List (C U)) : Option (U te) :=
  match putC P new n (cd.enc te x) sub with
  | some cs => cd.dec te cs
  | none => none
def storeF (P : Program) (cd : Cd U) (t : Nat) (a x : V U) (hp : List (Blk U)) : Tree (D U × List (Blk U)) :=
  let done (h : List (Blk U)) : Tree (D U × List (Blk U)) := .leaf (.v (.one .skp), h)
  bif (P.info? t).isSome then match a with
  | .one (.ptr b o) => match nth hp b with
    | some (.cells cs) => (match bif fitL P x.cells (P.cellsOf t) then putC P x.cells (P.cellsOf t) cs o else none with
      | some r => done (setN hp b (.cells r))
      | none => .fail)
    | _ => .fail
  | .one (.elp b v i sub) => match nth hp b with
    | some (.row te v' l) => bif Nat.beq v v' then .opt (U te) l[i]? fun y =>
        (match bif fitL P x.cells (P.cellsOf t) then setE P cd te y sub (P.cellsOf t) x.cells else none with
        | some z => done (setN hp b (.row te v' (l.set i z)))
        | none => .fail) else .fail
    | _ => .fail
  | .one (.ap b o te i sub) => match nth hp b with
    | some (.cells cs) => match atC P cs o with
      | some (.arr t' n l) => bif Nat.beq t' te then (match manyOf P t te with
        | some m => (match x with
          | .agg [.arr t'' m' l'] => if h : t'' = t' then bif Nat.beq m m' && Nat.beq sub 0 then
              .ite (decide (i + m ≤ l.length)) (match putC P [.arr t' n (l.take i ++ (h ▸ l') ++ l.drop (i + m))] (n * P.cellsOf t') cs o with
                | some r => done (setN hp b (.cells r))
                | none => .fail) .fail else .fail else .fail
          | _ => .fail)
        | none => .opt (U t') l[i]? fun y =>
          (match bif fitL P x.cells (P.cellsOf t) then setE P cd t' y sub (P.cellsOf t) x.cells else none with
          | some z => (match putC P [.arr t' n (l.set i z)] (n * P.cellsOf t') cs o with
            | some r => done (setN hp b (.cells r))
            | none => .fail)
          | none => .fail)) else .fail
      | _ => .fail
    | _ => .fail
  | _ => .fail
  else .fail

def fieldOff (P : Program) (t f : Nat) : Option (Nat × Nat) := match P.underlying t with
  | some (.struct fs) => match fs.toList[f]? with
    | some f' => some (f'.offset, f'.type)
    | none => none
  | _ => none
def fieldAd (P : Program) (t f : Nat) : Option Nat := match fieldOff P t f with
  | some (q, tf) => bif (P.underlying tf).isSome && !Nat.beq (P.cellsOf tf) 0 then some q else none
  | none => none
def fieldAddrK (P : Program) (t f : Nat) : V U → K U
  | .one (.ptr b o) => match fieldAd P t f with | some q => .pur (one (.ptr b (o + q))) | none => .pur .fail
  | .one (.elp b v i s) => match fieldAd P t f with
    | some q => .lod b fun
      | .row _ v' _ => bif Nat.beq v v' then one (.elp b v i (s + q)) else .fail
      | _ => .fail
    | none => .pur .fail
  | .one (.xp te x s) => match fieldAd P t f with | some q => .pur (one (.xp te x (s + q))) | none => .pur .fail
  | .one (.ap b o te i s) => match fieldAd P t f with | some q => .pur (one (.ap b o te i (s + q))) | none => .pur .fail
  | _ => .pur .fail
def fieldK (P : Program) (t f : Nat) : V U → K U
  | .agg cs => match fieldOff P t f with
    | some (q, tf) => (match cutC P cs q (P.cellsOf tf) with
      | some r => (match mkV P tf r with | some v => .pur (.leaf (.v v)) | none => .pur .fail)
      | none => .pur .fail)
    | none => .pur .fail
  | _ => .pur .fail
def indexK (P : Program) (cd : Cd U) (t : Nat) : V U → V U → K U
  | .one (.str s), .one (.int _ i) => .pur (match P.underlying t with
    | some .string => elemT s i fun b => one (.int .u8 b.toNat)
    | _ => .fail)
  | .agg [.arr te _ l], .one (.int _ i) => match P.underlying t with
    | some (.array n e) => bif arrOk P 10 t then .pur (match manyOf P e te with
      | some m => .ite (decide (0 ≤ i)) (.ite (decide (i < (n : Int))) (.ite (decide (i.toNat * m + m ≤ l.length)) (.leaf (.v (.agg [.arr te m ((l.drop (i.toNat * m)).take m)]))) .fail) .fail) .fail
      | none => .ite (decide (0 ≤ i)) (.ite (decide (i < (n : Int))) (bif Nat.beq (P.cellsOf te) (P.cellsOf e) then .opt (U te) l[i.toNat]? fun x => partE P cd e te x 0 else .fail) .fail) .fail) else .pur .fail
    | _ => .pur .fail
  | _, _ => .pur .fail

def boxB (P : Program) (t : Nat) (x : V U) : Tree (Blk U) :=
  bif fitL P x.cells (P.cellsOf t) then .leaf (.cells x.cells) else .fail
/-- the parts of a struct or an array, in place of its zero value's -/
def fillC (P : Program) (place : Nat → Option (Nat × Nat)) (cs : List (C U)) : List (Nat × V U) → Option (List (C U))
  | [] => some cs
  | (i, x) :: r => match place i with
    | some (o, n) => bif fitL P x.cells n then (match putC P x.cells n cs o with | some cs' => fillC P place cs' r | none => none) else none
    | none => none
def typParts (P : Program) (ft : Nat → Nat) : List (Nat × D U) → Option (List (Nat × V U))
  | [] => some []
  | (i, .v x) :: r => match typParts P ft r with | some r' => some ((i, typV P (ft i) x) :: r') | none => none
  | _ :: _ => none
def buildT (P : Program) (cd : Cd U) (t : Nat) (parts : List (Nat × D U)) : Tree (D U) :=
  match zeroC P cd t, P.underlying t with
  | some z, some (.struct fs) => bif fs.toList.all (fun f => (P.info? f.type).isSome) then (match typParts P (fun i => ((fieldOff P t i).map (·.2)).getD 0) parts with
    | some ps => (match fillC P (fun i => (fieldOff P t i).map fun q => (q.1, P.cellsOf q.2)) z ps with
      | some cs => .leaf (.v (.agg cs))
      | none => .fail)
    | none => .fail) else .fail
  | some z, some (.array _ e) => bif (P.info? e).isSome then (match typParts P (fun _ => e) parts with
    | some ps => arrT e z ps
    | none => .fail) else .fail
  | _, _ => .fail
where
  arrT (e : Nat) (z : List (C U)) (ps : List (Nat × V U)) : Tree (D U) := match z with
    | [.arr te n l] => bif Nat.beq te e then (match arrFill te l ps with | some l' => .leaf (.v (.agg [.arr te n l'])) | none => .fail) else .fail
    | _ => .fail
  arrFill (te : Nat) (l : List (U te)) : List (Nat × V U) → Option (List (U te))
    | [] => some l
    | (i, x) :: r => bif Nat.blt i l.length && fitL P x.cells (P.cellsOf te) then (match cd.dec te x.cells with | some y => arrFill te (setN l i y) r | none => none) else none
/-- a slice literal whose parts are all given, in order -/
def decParts (P : Program) (cd : Cd U) (e : Nat) : Nat → List (Nat × D U) → Option (List (U e))
  | _, [] => some []
  | j, (i, .v x) :: r => bif Nat.beq i j && fitL P (typV P e x).cells (P.cellsOf e) then (match cd.dec e (typV P e x).cells, decParts P cd e (j + 1) r with | some y, some l => some (y :: l) | _, _ => none) else none
  | _, _ => none
def buildSliceT (P : Program) (cd : Cd U) (t len : Nat) (parts : List (Nat × D U)) : Tree (Blk U) :=
  match P.underlying t with
  | some (.slice e) => bif (zeroE P cd e).isSome && Nat.beq parts.length len && Nat.ble (len * P.cellsOf e) 16777216 && Nat.blt 0 (P.cellsOf e) then (match decParts P cd e 0 parts with | some l => .leaf (.row e 0 l) | none => .fail) else .fail
  | _ => .fail
def makeSliceT (P : Program) (cd : Cd U) (t : Nat) : V U → V U → Tree (Blk U)
  | .one (.int .i64 n), .one (.int .i64 m) => match P.underlying t with
    | some (.slice e) => bif Nat.blt 0 (P.bytesOf e) then (match zeroE P cd e with
      | some z => .ite (decide (n = m)) (.ite (decide (0 ≤ n)) (.ite (decide ((P.bytesOf e : Int) * n ≤ 281474976710656)) (.leaf (.row e 0 (List.replicate n.toNat z))) .fail) .fail) .fail
      | none => .fail) else .fail
    | _ => .fail
  | _, _ => .fail

def bound : Option (D U) → Option (Option Int)
  | none => some none
  | some (.v (.one (.int _ i))) => some (some i)
  | _ => none
/-- the bounds of a slice expression within n -/
def cutT {α : Type} (n : Nat) (lo hi : Option Int) (f : Nat → Nat → Tree α) : Tree α :=
  match lo, hi with
  | none, none => f 0 n
  | none, some h => .ite (decide (0 ≤ h)) (.ite (decide (h ≤ (n : Int))) (f 0 h.toNat) .fail) .fail
  | some l, none => .ite (decide (0 ≤ l)) (.ite (decide (l ≤ (n : Int))) (f l.toNat n) .fail) .fail
  | some l, some h => .ite (decide (0 ≤ h)) (.ite (decide (h ≤ (n : Int))) (.ite (decide (0 ≤ l)) (.ite (decide (l ≤ h)) (f l.toNat h.toNat) .fail) .fail) .fail) .fail
def sliceK (P : Program) (t : Nat) (x : V U) (lo hi : Option (D U)) : K U :=
  match bound lo, bound hi with
  | some l, some h => (match x with
    | .one (.str s) => .pur (match P.underlying t with
      | some .string => cutT s.length l h fun a b => one (.str ((s.drop a).take (b - a)))
      | _ => .fail)
    | .one (.sl te s _) => .pur (bif slOf P t te then cutT s.length l h fun a b => one (.sl te ((s.drop a).take (b - a)) false) else .fail)
    | .one (.row b v) => .lod b fun
      | .row te v' s => bif slOf P t te && Nat.beq v v' then cutT s.length l h fun a c => one (.own b v a (c - a)) else .fail
      | _ => .fail
    | .one (.own b v o n) => .lod b fun
      | .row te v' _ => bif slOf P t te && Nat.beq v v' then cutT n l h fun a c => one (.own b v (o + a) (c - a)) else .fail
      | _ => .fail
    | _ => .pur .fail)
  | _, _ => .pur .fail

/-- is t a type of slices of bytes te -/
def byteSl (P : Program) (t te : Nat) : Bool := match P.underlying te with
  | some (.int .u8) => slOf P t te
  | _ => false
def convK (P : Program) (cd : Cd U) (src dst : Nat) (x : V U) : K U :=
  match P.underlying src, P.underlying dst with
  | some _, some (.int k) => (match x with
    | .one (.int _ n) => .pur (one (.int k (k.wrap n)))
    | _ => .pur .fail)
  | some .string, some .string => (match x with
    | .one (.str s) => .pur (one (.str s))
    | _ => .pur .fail)
  | some (.slice _), some .string => (match x with
    | .one (.sl t l _) => .pur (bif byteSl P src t then (match cd.bytes t l with | some s => one (.str s) | none => .fail) else .fail)
    | .one (.row b v) => .lod b fun
      | .row t v' l => bif byteSl P src t && Nat.beq v v' then (match cd.bytes t l with | some s => one (.str s) | none => .fail) else .fail
      | _ => .fail
    | .one (.own b v lo n) => .lod b fun
      | .row t v' l => bif byteSl P src t && Nat.beq v v' then (match cd.bytes t ((l.drop lo).take n) with | some s => one (.str s) | none => .fail) else .fail
      | _ => .fail
    | _ => .pur .fail)
  | _, _ => .pur .fail

/-- is a number among those of a list -/
def memI : List Int → Int → Bool
  | [], _ => false
  | x :: l, n => bif decide (x = n) then true else memI l n
/-- is t a type of maps from numbers to truth values -/
def mapIB (P : Program) (t : Nat) : Bool := match P.underlying t with
  | some (.map k e) => (match P.underlying k, P.info? e with
    | some (.int .i64), some i => (match i.zero with | some (.bool false) => true | _ => false)
    | _, _ => false)
  | _ => false
def lookK (P : Program) (t : Nat) : V U → V U → K U
  | .one (.mp l), .one (.int .i64 n) => bif mapIB P t then .pur (one (.bool (memI l n))) else .pur .fail
  | _, _ => .pur .fail

/-! ### built-in functions -/
def intV (n : Int) : Tree (D U) := one (.int .i64 n)
def lenK (P : Program) (t : Nat) (x : V U) : K U := match P.underlying t with
  | some .string => (match x with
    | .one (.str s) => .pur (intV s.length)
    | _ => .pur .fail)
  | some (.array n _) => .pur (intV n)
  | some (.slice _) => (match x with
    | .one (.sl _ l _) => .pur (intV l.length)
    | .one .nils => .pur (intV 0)
    | .one (.own b v _ n) => .lod b fun
      | .row _ v' _ => bif Nat.beq v v' then intV n else .fail
      | _ => .fail
    | .one (.row b v) => .lod b fun
      | .row _ v' l => bif Nat.beq v v' then intV l.length else .fail
      | _ => .fail
    | _ => .pur .fail)
  | _ => .pur .fail
/-- the elements of a slice or a string, for a row of te -/
def elemsOf (cd : Cd U) (te : Nat) (hp : List (Blk U)) : V U → Option (List (U te))
  | .one (.sl t l _) => if h : t = te then some (h ▸ l) else none
  | .one .nils => some []
  | .one (.str s) => cd.ofBytes te s
  | .one (.row b v) => match nth hp b with
    | some (.row t v' l) => if h : t = te then bif Nat.beq v v' then some (h ▸ l) else none else none
    | _ => none
  | .one (.own b v lo n) => match nth hp b with
    | some (.row t v' l) => if h : t = te then bif Nat.beq v v' then some ((h ▸ l).drop lo |>.take n) else none else none
    | _ => none
  | _ => none
def refOf : V U → Option Nat
  | .one (.row b _) => some b
  | .one (.own b _ _ _) => some b
  | _ => none
def refIs (y : V U) (b : Nat) : Bool := match refOf y with
  | some b' => Nat.beq b b'
  | none => false
/-- the second argument's type -/
def srcT (P : Program) (t : Nat) : Bool := match P.underlying t with
  | some (.slice _) => true
  | some .string => true
  | _ => false
def appendK (P : Program) (cd : Cd U) (t t2 : Nat) (x y : V U) : K U :=
  match P.underlying t with
  | some (.slice e) => bif srcT P t2 && (zeroE P cd e).isSome && Nat.blt 0 (P.bytesOf e) then .wri (fun hp id => go e x hp id) else .pur .fail
  | _ => .pur .fail
where
  fresh (e : Nat) (hp : List (Blk U)) (id : Nat) : Tree (D U × List (Blk U)) := match elemsOf cd e hp y with
    | some m => .ite (decide (m.length * P.bytesOf e ≤ 140737488355328)) (.leaf (.v (.one (.row id 0)), setN hp id (.row e 0 m))) .fail
    | none => .fail
  go (e : Nat) (x : V U) (hp : List (Blk U)) (id : Nat) : Tree (D U × List (Blk U)) := match x with
    | .one .nils => fresh e hp id
    | .one (.sl _ l true) => (match l with | [] => fresh e hp id | _ => .fail)
    | .one (.row b v) => match nth hp b with
      | some (.row t' v' l) => bif Nat.beq t' e && Nat.beq v v' && !refIs y b then (match elemsOf cd t' hp y with
        | some m => .ite (decide ((l.length + m.length) * P.bytesOf t' ≤ 140737488355328)) (.leaf (.v (.one (.row b (v + 1))), setN hp b (.row t' (v + 1) (l ++ m)))) .fail
        | none => .fail) else .fail
      | _ => .fail
    | _ => .fail
def copyK (P : Program) (cd : Cd U) (t : Nat) (x y : V U) : K U :=
  match P.underlying t with
  | some (.slice e) => bif (P.info? e).isSome then .wri (fun hp _ => match x with
    | .one (.row b v) => match nth hp b with
      | some (.row t' v' l) => bif Nat.beq t' e && Nat.beq v v' && !refIs y b then (match elemsOf cd t' hp y with
        | some m => .leaf (.v (.one (.int .i64 ((Nat.min m.length l.length : Nat) : Int))), setN hp b (.row t' v' (m.take l.length ++ l.drop m.length)))
        | none => .fail) else .fail
      | _ => .fail
    | _ => .fail) else .pur .fail
  | _ => .pur .fail
/-- a part of a row is cleared -/
def clearK (P : Program) (cd : Cd U) (t : Nat) (x : V U) : K U :=
  match P.underlying t with
  | some (.slice e) => match zeroE P cd e with
    | some z => .wri (fun hp _ => match x with
      | .one (.own b v lo n) => match nth hp b with
        | some (.row t' v' l) => if h : e = t' then bif Nat.beq v v' then .leaf (.v (.one .unk), setN hp b (.row t' v' (l.take lo ++ List.replicate n (h ▸ z) ++ l.drop (lo + n)))) else .fail else .fail
        | _ => .fail
      | _ => .fail)
    | none => .pur .fail
  | _ => .pur .fail
def clrK (P : Program) (cd : Cd U) (b : Builtin) (vs : List (V U)) (ts : List Nat) : K U := match b, vs, ts with
  | .clear, [x], [t] => clearK P cd t x
  | _, _, _ => .pur .fail
def minmax (mx : Bool) : V U → List (V U) → Tree (D U)
  | x, [] => .leaf (.v x)
  | .one (.int k a), .one (.int k' b) :: r => bif decide (k = k') then minmax mx (.one (.int k (bif mx then (if b > a then b else a) else (if b < a then b else a)))) r else .fail
  | _, _ => .fail

/-! ### references, and blocks taken together -/
def verOf : List (Blk U) → Nat → Option Nat
  | hp, b => match nth hp b with | some (.row _ v _) => some v | _ => none
def live (hp : List (Blk U)) (b : Nat) : Bool := match nth hp b with | some .dead => false | some _ => true | none => false
def refs1 : C U → List Nat
  | .row b _ => [b]
  | .own b _ _ _ => [b]
  | .ptr b _ => [b]
  | .elp b _ _ _ => [b]
  | .ap b _ _ _ _ => [b]
  | _ => []
def refsL1 : List (C U) → List Nat
  | [] => []
  | c :: l => refs1 c ++ refsL1 l
def refsC : C U → List Nat
  | .fn _ a b => refsL1 a ++ refsL1 b
  | c => refs1 c
def refsL : List (C U) → List Nat
  | [] => []
  | c :: l => refsC c ++ refsL l
def refsV (x : V U) : List Nat := refsL x.cells
def refsVs : List (V U) → List Nat
  | [] => []
  | x :: l => refsV x ++ refsVs l
def refsB : Option (Blk U) → List Nat
  | some (.cells cs) => refsL cs
  | _ => []
def dedup : List Nat → List Nat → List Nat
  | acc, [] => acc
  | acc, b :: l => bif memN acc b then dedup acc l else dedup (acc ++ [b]) l
def bfs (hp : List (Blk U)) : Nat → List Nat → List Nat
  | 0, l => l
  | f + 1, l => bfs hp f (dedup l (l.flatMap fun b => refsB (nth hp b)))
/-- cells with other numbers of blocks: 'g b v' is the new number and version -/
def ren1 (g : Nat → Nat → Option (Nat × Nat)) : C U → C U
  | .kb b => .bool b
  | .row b v => match g b v with | some (b', v') => .row b' v' | none => .unk
  | .own b v lo n => match g b v with | some (b', v') => .own b' v' lo n | none => .unk
  | .elp b v i s => match g b v with | some (b', v') => .elp b' v' i s | none => .unk
  | .ptr b o => match g b 0 with | some (b', _) => .ptr b' o | none => .unk
  | .ap b o t i s => match g b 0 with | some (b', _) => .ap b' o t i s | none => .unk
  | .fn f a b => match a, b with | [], [] => .fn f [] [] | _, _ => .unk
  | c => c
def renC (g : Nat → Nat → Option (Nat × Nat)) : C U → C U
  | .fn f a b => .fn f (a.map (ren1 g)) (b.map (ren1 g))
  | c => ren1 g c
def renV (g : Nat → Nat → Option (Nat × Nat)) : V U → V U
  | .one c => .one (renC g c)
  | .agg cs => .agg (cs.map (renC g))
/-- into a smaller memory: rows begin at version 0, the first n at version 1 -/
def ver0 (n j v : Nat) : Nat := bif Nat.blt j n then (bif Nat.beq v 0 then 0 else 1) else 0
def into (n : Nat) (hp : List (Blk U)) (order : List Nat) (b v : Nat) : Option (Nat × Nat) :=
  match posN order b 0 with
  | some j => (match nth hp b with
    | some (.row _ v' _) => bif Nat.beq v v' then some (j, ver0 n j v') else none
    | some (.cells _) => some (j, 0)
    | _ => none)
  | none => none
def intoB (n : Nat) (hp : List (Blk U)) (order : List Nat) (j b : Nat) : Blk U := match nth hp b with
  | some (.cells cs) => .cells (cs.map (renC (into n hp order)))
  | some (.row t v l) => .row t (ver0 n j v) l
  | _ => .dead
def intoHp (n : Nat) (hp : List (Blk U)) (order : List Nat) : Nat → List Nat → List (Blk U)
  | _, [] => []
  | j, b :: r => intoB n hp order j b :: intoHp n hp order (j + 1) r
/-- and back -/
def back (hp : List (Blk U)) (order : List Nat) (b v : Nat) : Option (Nat × Nat) :=
  match nth order b with
  | some b' => (match nth hp b' with
    | some (.row _ v' _) => some (b', v' + v)
    | _ => some (b', v))
  | none => some (hp.length + (b - order.length), v)
def backB (hp : List (Blk U)) (order : List Nat) (j : Nat) : Blk U → Blk U
  | .cells cs => .cells (cs.map (renC (back hp order)))
  | .row t v l => .row t (match nth order j with | some b' => (match nth hp b' with | some (.row _ v' _) => v' + v | _ => v) | none => v) l
  | .dead => .dead
def putBack (hp0 : List (Blk U)) (order0 : List Nat) : List Nat → Nat → List (Blk U) → List (Blk U) → Option (List (Blk U))
  | [], j, rest, hp => some (hp ++ go j rest)
  | b :: order, j, blk :: rest, hp => putBack hp0 order0 order (j + 1) rest (setN hp b (backB hp0 order0 j blk))
  | _ :: _, _, [], _ => none
where go : Nat → List (Blk U) → List (Blk U)
  | _, [] => []
  | j, blk :: r => backB hp0 order0 j blk :: go (j + 1) r

/-! ### rows taken for good: those from n on -/
def frz1 (n : Nat) (hp : List (Blk U)) : C U → C U
  | .kb b => .bool b
  | .nils => .nils
  | .sl t l _ => .sl t l false
  | .row b v => bif Nat.blt b n then .row b v else match nth hp b with
    | some (.row t v' l) => bif Nat.beq v v' then .sl t l false else .unk
    | _ => .unk
  | .own b v lo k => bif Nat.blt b n then .own b v lo k else match nth hp b with
    | some (.row t v' l) => bif Nat.beq v v' then .sl t ((l.drop lo).take k) false else .unk
    | _ => .unk
  | .elp b v i sub => bif Nat.blt b n then .elp b v i sub else .unk
  | .fn f a b => match a, b with | [], [] => .fn f [] [] | _, _ => .unk
  | c => c
def frzC (n : Nat) (hp : List (Blk U)) : C U → C U
  | .fn f a b => .fn f (a.map (frz1 n hp)) (b.map (frz1 n hp))
  | c => frz1 n hp c
def frzV (n : Nat) (hp : List (Blk U)) : V U → V U
  | .one c => .one (frzC n hp c)
  | .agg cs => .agg (cs.map (frzC n hp))
def frzD (n : Nat) (hp : List (Blk U)) : D U → D U
  | .v x => .v (frzV n hp x)
  | .tup vs => .tup (vs.map (frzV n hp))
def frzHp (n : Nat) (hp : List (Blk U)) : Nat → List (Blk U) → List (Blk U)
  | _, [] => []
  | j, .cells cs :: r => .cells (cs.map (frzC n hp)) :: frzHp n hp (j + 1) r
  | j, .row t v l :: r => (bif Nat.blt j n then .row t v l else .dead) :: frzHp n hp (j + 1) r
  | j, .dead :: r => .dead :: frzHp n hp (j + 1) r
def frzS (n : Nat) (σ : St U) : St U := { tm := σ.tm.map fun p => (p.1, frzD n σ.hp p.2), hp := frzHp n σ.hp 0 σ.hp }

/-! ### one form for each value -/
def canC : C U → C U
  | .kb b => .bool b
  | .sl t l _ => .sl t l false
  | c => c
def canV : V U → V U
  | .one c => .one (canC c)
  | .agg cs => .agg (cs.map canC)
def canD : D U → D U
  | .v x => .v (canV x)
  | .tup vs => .tup (vs.map canV)
def canB : Blk U → Blk U
  | .cells cs => .cells (cs.map canC)
  | b => b
/-! ### calls -/
def resD : List (V U) → D U
  | [x] => .v x
  | l => .tup l
def valsOf (P : Program) : List (D U) → List Nat → Option (List (V U))
  | [], _ => some []
  | .v x :: l, t :: ts => match valsOf P l ts with | some r => some (typV P t x :: r) | none => none
  | .v x :: l, [] => match valsOf P l [] with | some r => some (x :: r) | none => none
  | _ :: _, _ => none
def nodupB : List Nat → Bool
  | [] => true
  | x :: l => bif memN l x then false else nodupB l
def ltAll (n : Nat) : List Nat → Bool
  | [] => true
  | x :: l => bif Nat.blt x n then ltAll n l else false
/-- a call whose memory is the blocks of 'order' alone -/
def callT (hp : List (Blk U)) (order : List Nat) (spec : List (V U) → List (Blk U) → Option (FnOut U)) (args : List (V U)) : Tree (D U × List (Blk U)) :=
  bif nodupB order && ltAll hp.length order then (match spec (args.map fun x => renV (into 0 hp order) (canV x)) ((intoHp 0 hp order 0 order).map canB) with
    | some r => .opt r.β r.o fun x => (r.out x).bind fun p => match putBack hp order order 0 p.2 hp with
      | some hp' => .leaf (resD (p.1.map (renV (back hp order))), hp')
      | none => .fail
    | none => .fail) else .fail
def callK (E : Env U) (f : Nat) (args : List (V U)) : K U :=
  match E.fns f with
  | some (true, spec) => (match spec (args.map fun x => renV (fun _ _ => none) (canV x)) [] with
    | some r => .pur (.opt r.β r.o fun x => (r.out x).bind fun p => match p with | (vs, []) => .leaf (resD (vs.map (renV fun _ _ => none))) | _ => .fail)
    | none => .pur .fail)
  | some (false, spec) => .wri fun hp _ => callT hp (bfs hp 3 (dedup [] (refsVs args))) spec args
  | none => .pur .fail

/-! ### operations -/
def vOf : D U → Option (V U)
  | .v x => some x
  | _ => none
def two (x y : D U) (f : V U → V U → K U) : K U := match vOf x, vOf y with
  | some a, some b => f a b
  | _, _ => .pur .fail
def oneK (x : D U) (f : V U → K U) : K U := match vOf x with
  | some a => f a
  | _ => .pur .fail
def opK (E : Env U) (ρ : Operand → D U) (o : Oper) : K U :=
  let P := E.P
  match o.op with
  | .move x => .pur (.leaf (typD P o.type (ρ x)))
  | .assign x => .pur (.leaf (typD P o.type (ρ x)))
  | .alloc t => .alo (match zeroC P E.cd t with | some cs => .leaf (.cells cs) | none => .fail) fun id => .ptr id 0
  | .box t x => .alo (match vOf (ρ x) with | some v => boxB P t (typV P t v) | none => .fail) fun id => .ptr id 0
  | .build t parts => .pur (buildT P E.cd t (parts.toList.map fun p => (p.1, ρ p.2)))
  | .buildSlice t n parts => .alo (buildSliceT P E.cd t n (parts.toList.map fun p => (p.1, ρ p.2))) fun id => .row id 0
  | .load t a => oneK (ρ a) (loadK P E.cd t)
  | .store t a x => two (ρ a) (ρ x) fun p v => .wri fun hp _ => storeF P E.cd t p (typV P t v) hp
  | .nilCheck x => match ρ x with
    | .v (.one (.ptr b o)) => .pur (one (.ptr b o))
    | .v (.one (.ap b o t i s)) => .pur (one (.ap b o t i s))
    | .v (.one (.elp b v i s)) => .lod b fun
      | .row _ v' _ => bif Nat.beq v v' then one (.elp b v i s) else .fail
      | _ => .fail
    | .v (.one (.xp t x s)) => .pur (one (.xp t x s))
    | .v (.one (.fn f a c)) => .pur (one (.fn f a c))
    | _ => .pur .fail
  | .binOp op t x y _ => two (ρ x) (ρ y) (binK P E.cd t op)
  | .unOp op _ x => oneK (ρ x) (unK op)
  | .convert src dst x => oneK (ρ x) (convK P E.cd src dst)
  | .makeFunc (.func f) a c => .pur (match optL (a.toList.map fun x => cellOf (ρ x)), optL (c.toList.map fun x => cellOf (ρ x)) with
    | some a', some c' => one (.fn f a' c')
    | _, _ => .fail)
  | .makeSlice t n m => .alo (match vOf (ρ n), vOf (ρ m) with | some a, some b => makeSliceT P E.cd t a b | _, _ => .fail) fun id => .row id 0
  | .slice t x lo hi none => oneK (ρ x) fun v => sliceK P t v (lo.map ρ) (hi.map ρ)
  | .fieldAddr t x f => oneK (ρ x) (fieldAddrK P t f)
  | .field t x f => oneK (ρ x) (fieldK P t f)
  | .indexAddr t x i => two (ρ x) (ρ i) (indexAddrK P t)
  | .index t x i => two (ρ x) (ρ i) (indexK P E.cd t)
  | .lookup t x i false => two (ρ x) (ρ i) (lookK P t)
  | .extract x i => match ρ x with
    | .tup vs => (match nth vs i with | some v => .pur (.leaf (.v v)) | none => .pur .fail)
    | _ => .pur .fail
  | .call c => match c.callee with
    | .value f => (match ρ f, valsOf P (c.args.toList.map ρ) c.argTypes.toList with
      | .v (.one (.fn g a b)), some vs => callK E g (a.map .one ++ vs ++ b.map .one)
      | _, _ => .pur .fail)
    | .builtin b => (match optL (c.args.toList.map fun x => vOf (ρ x)) with
      | some vs => (match b, vs, c.argTypes.toList with
        | .len, [x], [t] => lenK P t x
        | .append, [x, y], [t, t2] => appendK P E.cd t t2 x y
        | .copy, [x, y], [t, _] => copyK P E.cd t x y
        | .min, x :: r, _ => .pur (minmax false x r)
        | .max, x :: r, _ => .pur (minmax true x r)
        | b, vs, ts => clrK P E.cd b vs ts)
      | none => .pur .fail)
    | _ => .pur .fail
  | _ => .pur .fail
where cellOf : D U → Option (C U)
  | .v (.one c) => some c
  | _ => none

/-! ### regions -/
/-- 0: it neither reads nor changes memory; 1: it reads or makes memory; 2: it may change memory -/
def grade (E : Env U) (o : Oper) : Nat := match o.op with
  | .move _ | .assign _ | .pick _ _ _ | .build _ _ | .binOp _ _ _ _ _ | .unOp _ _ _ | .field _ _ _ | .index _ _ _ | .extract _ _ | .makeFunc _ _ _ | .lookup _ _ _ false => 0
  | .load _ _ | .alloc _ | .box _ _ | .buildSlice _ _ _ | .makeSlice _ _ _ | .slice _ _ _ _ _ | .indexAddr _ _ _ | .convert _ _ _ | .nilCheck _ | .fieldAddr _ _ _ => 1
  | .call c => match c.callee with
    | .value (.func f) => (match E.fns f with | some (true, _) => 1 | _ => 2)
    | .builtin .len => 1
    | .builtin .min => 0
    | .builtin .max => 0
    | _ => 2
  | _ => 2
def makes (o : Oper) : Bool := match o.op with
  | .alloc _ | .box _ _ | .buildSlice _ _ _ | .makeSlice _ _ _ => true
  | .call c => (match c.callee with | .builtin .append => true | _ => false)
  | _ => false
def countM : List Oper → Nat
  | [] => 0
  | o :: l => bif makes o then countM l + 1 else countM l
/-- the operation that makes block number r of the region -/
def maker : List Oper → Nat → Nat → Option Nat
  | [], _, _ => none
  | o :: l, r, i => bif makes o then (bif Nat.beq r 0 then some i else maker l (r - 1) (i + 1)) else maker l r (i + 1)
def depB (deps : Array Nat) (j i : Nat) : Bool := (deps.getD j 0).testBit i
def disjN : List Nat → List Nat → Bool
  | [], _ => true
  | x :: l, m => bif memN m x then false else disjN l m
def fpDisj : Fp → Fp → Bool
  | .rd l, .wr m n => disjN l m && ltAll n l
  | .wr m n, .rd l => disjN l m && ltAll n l
  | _, _ => false
def pairOk (E : Env U) (fps : Nat → Fp) (ops : Array Oper) (deps : Array Nat) (i : Nat) (x : Oper) (j : Nat) (y : Oper) : Bool :=
  bif depB deps j i then true else Oper.apart ops x y && (let a := grade E x; let b := grade E y; Nat.beq a 0 || Nat.beq b 0 || (Nat.beq a 1 && Nat.beq b 1) || (fpDisj (fps i) (fps j) && !makes x && !makes y))
def pairs1 (E : Env U) (fps : Nat → Fp) (ops : Array Oper) (deps : Array Nat) (i : Nat) (x : Oper) : List Oper → Nat → Bool
  | [], _ => true
  | y :: l, j => bif pairOk E fps ops deps i x j y then pairs1 E fps ops deps i x l (j + 1) else false
def pairsAll (E : Env U) (fps : Nat → Fp) (ops : Array Oper) (deps : Array Nat) : List Oper → Nat → Bool
  | [], _ => true
  | x :: l, i => bif pairs1 E fps ops deps i x l (i + 1) then pairsAll E fps ops deps l (i + 1) else false
/-- does each operation wait for earlier ones alone -/
def afterOk : Nat → List Oper → Bool
  | _, [] => true
  | i, o :: l => bif o.after.all (fun e => !Region.binds .any e || Nat.blt e.on i) then afterOk (i + 1) l else false
def drawOk (E : Env U) (fps : Nat → Fp) (ops : Array Oper) : Bool := afterOk 0 ops.toList && pairsAll E fps ops (Region.before ops) ops.toList 0

structure Rg where
  ops : Array Oper
  deps : Array Nat
  base : Nat
  draw : Bool
  fps : Nat → Fp
def fpRd : Fp → Nat → Bool
  | .none, _ => true
  | .rd l, b => memN l b
  | .wr _ _, _ => false
/-- the blocks that an operation may change -/
def tch (P : Program) (ρ : Operand → D U) (hp : List (Blk U)) (o : Oper) : Option (List Nat) := match o.op with
  | .store _ a _ => (match ρ a with
    | .v (.one (.ptr b _)) => some [b]
    | .v (.one (.elp b _ _ _)) => some [b]
    | .v (.one (.ap b _ _ _ _)) => some [b]
    | _ => none)
  | .call c => (match c.callee with
    | .value f => (match ρ f, valsOf P (c.args.toList.map ρ) c.argTypes.toList with
      | .v (.one (.fn _ a b)), some vs => some (bfs hp 3 (dedup [] (refsVs (a.map .one ++ vs ++ b.map .one))))
      | _, _ => none)
    | _ => none)
  | _ => none
def subN : List Nat → List Nat → Bool
  | [], _ => true
  | x :: l, m => bif memN m x then subN l m else false
def wOk (P : Program) (fp : Fp) (ρ : Operand → D U) (hp : List (Blk U)) (o : Oper) : K U → Bool
  | .wri _ => (match fp with
    | .none => true
    | .rd _ => false
    | .wr m n => Nat.ble n hp.length && (match tch P ρ hp o with | some l => subN l m | none => false))
  | _ => true
/-- may this be done in any order -/
def fitsB (E : Env U) (r : Rg) (i : Nat) (o : Oper) : K U → Bool
  | .pur _ => true
  | .alo _ _ => Nat.beq (grade E o) 1 && makes o
  | .lod b _ => Nat.beq (grade E o) 1 && (Nat.blt b r.base || (match maker r.ops.toList (b - r.base) 0 with | some j => depB r.deps i j && Nat.blt j i | none => false)) && fpRd (r.fps i) b
  | .wri _ => Nat.beq (grade E o) 2
def putD (σ : St U) (d : Option Nat) (x : D U) : St U := match d with
  | some t => { σ with tm := putA σ.tm t x }
  | none => σ
def isDead (hp : List (Blk U)) (b : Nat) : Bool := match nth hp b with
  | some .dead => true
  | _ => false
def doK (σ : St U) (o : Oper) (id : Nat) : K U → Tree (St U)
  | .pur t => t.map fun d => putD σ o.dst d
  | .alo t mk => t.map fun blk => { putD σ o.dst (.v (.one (mk id))) with hp := setN σ.hp id blk }
  | .lod b f => match nth σ.hp b with
    | some .dead => .fail
    | some blk => (f blk).map fun d => putD σ o.dst d
    | none => .fail
  | .wri f => (f σ.hp id).map fun p => { putD σ o.dst p.1 with hp := p.2 }
/-- one operation whose turn it is -/
def doOp (E : Env U) (r : Rg) (i id : Nat) (o : Oper) (kn : List (Nat × Bool)) (σ : St U) : Tree (St U) := match o.op with
  | .pick c a b => (match (match c with | .tmp t => getA kn t | _ => none) with
    | some true => .leaf (putD σ o.dst (typD E.P o.type (ev σ.tm a)))
    | some false => .leaf (putD σ o.dst (typD E.P o.type (ev σ.tm b)))
    | none => match ev σ.tm c with
      | .v (.one (.kb true)) => .leaf (putD σ o.dst (typD E.P o.type (ev σ.tm a)))
      | .v (.one (.kb false)) => .leaf (putD σ o.dst (typD E.P o.type (ev σ.tm b)))
      | .v (.one (.bool x)) => .ite x (.leaf (putD σ o.dst (typD E.P o.type (ev σ.tm a)))) (.leaf (putD σ o.dst (typD E.P o.type (ev σ.tm b))))
      | _ => .fail)
  | _ =>
    let k := opK E (ev σ.tm) o
    bif (!r.draw || fitsB E r i o k) && (!makes o || isDead σ.hp id) && wOk E.P (r.fps i) (ev σ.tm) σ.hp o k then doK σ o id k else .fail
def knows (kn : List (Nat × Bool)) : Option Nat → Bool
  | some t => (getA kn t).isSome
  | none => false
def runOps (E : Env U) (r : Rg) : List Oper → Nat → Nat → List (Nat × Bool) → St U → Tree (St U)
  | [], _, _, _, σ => .leaf σ
  | o :: l, i, id, kn, σ =>
    let next (kn : List (Nat × Bool)) (σ : St U) : Tree (St U) := runOps E r l (i + 1) (bif makes o then id + 1 else id) kn σ
    let yes (kn : List (Nat × Bool)) : Tree (St U) := (doOp E r i id o kn σ).bind (next kn)
    let no (kn : List (Nat × Bool)) : Tree (St U) := next kn (putD σ o.dst (.v (.one .skp)))
    bif knows kn o.dst then .fail else match o.guard with
    | none => yes kn
    | some (j, want) => match (r.ops[j]?).bind (·.dst) with
      | none => no kn
      | some t => match getA kn t with
        | some b => bif b == want then yes kn else no kn
        | none => match getA σ.tm t with
          | some (.v (.one (.kb b))) => bif b == want then yes kn else no kn
          | some (.v (.one (.bool b))) => bif knows [(t, true)] o.dst then .fail else .ite b (bif want then yes ((t, true) :: kn) else no ((t, true) :: kn)) (bif want then no ((t, false) :: kn) else yes ((t, false) :: kn))
          | some (.v (.one .skp)) => no kn
          | _ => .fail
def dstsOk (n : Nat) : List Oper → Bool
  | [] => true
  | o :: l => bif (match o.dst with | some t => Nat.blt t n | none => true) then dstsOk n l else false
def region (E : Env U) (id : Nat) (ops : Array Oper) (draw : Bool) (σ : St U) : Tree (St U) :=
  let σ1 := bif E.frz id then frzS E.n0 σ else σ
  let base := σ1.hp.length
  bif dstsOk E.nt ops.toList && (!draw || (drawOk E (E.fps id) ops && E.P.follows .mixedOrders)) then
    runOps E { ops, deps := Region.before ops, base, draw, fps := E.fps id } ops.toList 0 base [] { σ1 with hp := σ1.hp ++ List.replicate (countM ops.toList) .dead }
  else .fail

/-! ### code -/
def nl : Code → Nat
  | .seq a b => nl a + nl b
  | .cond _ a b => nl a + nl b
  | .block _ c => nl c
  | .loop c => nl c + 1
  | _ => 0
/-- the state at a loop's head: what is kept, its blocks numbered anew -/
def keepT : List Nat → List (Nat × D U) → List (Nat × D U)
  | _, [] => []
  | ks, (k, x) :: l => bif memN ks k then (k, x) :: keepT ks l else keepT ks l
def ownE (t : Nat) (l : List (U t)) (hp : List (Blk U)) : C U × List (Blk U) := match l with
  | [] => (.row hp.length 0, hp ++ [.row t 0 []])
  | _ => (.sl t l true, hp)
def ownC : C U → List (Blk U) → C U × List (Blk U)
  | .sl t l true, hp => ownE t l hp
  | c, hp => (c, hp)
def ownL : List (C U) → List (Blk U) → List (C U) × List (Blk U)
  | [], hp => ([], hp)
  | c :: l, hp => let r := ownC c hp; let s := ownL l r.2; (r.1 :: s.1, s.2)
def ownT : List (Nat × D U) → List (Blk U) → List (Nat × D U) × List (Blk U)
  | [], hp => ([], hp)
  | (k, .v (.one c)) :: l, hp => let r := ownC c hp; let s := ownT l r.2; ((k, .v (.one r.1)) :: s.1, s.2)
  | (k, .v (.agg cs)) :: l, hp => let r := ownL cs hp; let s := ownT l r.2; ((k, .v (.agg r.1)) :: s.1, s.2)
  | x :: l, hp => let s := ownT l hp; (x :: s.1, s.2)
def ownB : Nat → Nat → List (Blk U) → List (Blk U)
  | 0, _, hp => hp
  | n + 1, j, hp => match nth hp j with
    | some (.cells cs) => let r := ownL cs hp; ownB n (j + 1) (setN r.2 j (.cells r.1))
    | _ => ownB n (j + 1) hp
def refsT : List (Nat × D U) → List Nat
  | [] => []
  | (_, .v x) :: l => refsV x ++ refsT l
  | _ :: l => refsT l
def renD (g : Nat → Nat → Option (Nat × Nat)) : D U → D U
  | .v x => .v (renV g x)
  | .tup vs => .tup (vs.map (renV g))
def upTo : Nat → List Nat
  | 0 => []
  | n + 1 => upTo n ++ [n]
def gcS (n : Nat) (σ : St U) : St U :=
  let order := bfs σ.hp 3 (dedup (upTo n) (refsT σ.tm))
  bif nodupB order && ltAll σ.hp.length order then
    { tm := σ.tm.map fun p => (p.1, renD (into n σ.hp order) p.2), hp := intoHp n σ.hp order 0 order }
  else σ
/-- is every temporary told once -/
def onceT : List (Nat × D U) → Bool
  | [] => true
  | (k, _) :: l => bif (getA l k).isSome then false else onceT l
def canS (σ : St U) : St U := { tm := σ.tm.map fun p => (p.1, canD p.2), hp := σ.hp.map canB }
def nrm (n : Nat) (keep : List Nat) (own : Bool) (σ : St U) : St U :=
  let σ1 := gcS n { σ with tm := keepT keep σ.tm }
  canS (bif own then gcS n (bif onceT σ1.tm then { tm := (ownT σ1.tm σ1.hp).1, hp := ownB σ1.hp.length 0 (ownT σ1.tm σ1.hp).2 } else σ1) else σ1)

def exec (E : Env U) : Code → Nat → St U → Tree (Ex × St U)
  | .skip, _, σ => .leaf (.norm, σ)
  | .region id ops d, _, σ => (region E id ops d σ).map fun σ' => (.norm, σ')
  | .seq a b, i, σ => (exec E a i σ).bind fun p => match p.1 with
    | .norm => exec E b (i + nl a) p.2
    | e => .leaf (e, p.2)
  | .cond c x y, i, σ => match ev σ.tm c with
    | .v (.one (.kb true)) => exec E x i σ
    | .v (.one (.kb false)) => exec E y (i + nl x) σ
    | .v (.one (.bool b)) => .ite b (exec E x i σ) (exec E y (i + nl x) σ)
    | _ => .fail
  | .block id c, i, σ => (exec E c i σ).map fun p => match p.1 with
    | .exit id' => bif Nat.beq id' id then (.norm, p.2) else p
    | _ => p
  | .loop _, i, σ => match E.lps i with
    | some (h, spec) => (match spec (nrm E.n0 h.keep h.own σ) with
      | some r => .opt r.β r.o r.out
      | none => .fail)
    | none => .fail
  | .exit id, _, σ => .leaf (.exit id, σ)
  | .ret, _, σ => .leaf (.ret, σ)
  | _, _, _ => .fail

/-- one round of a loop: on with it, or out of it -/
def round (E : Env U) (h : Hd) (c : Code) (i : Nat) (σ : St U) : Tree (St U ⊕ (Ex × St U)) :=
  (exec E c (i + 1) σ).map fun p => match p.1 with
    | .norm => .inl (nrm E.n0 h.keep h.own p.2)
    | e => .inr (e, nrm E.n0 h.xkeep h.own p.2)

/-- a function's results -/
def keepG (n b v : Nat) : Option (Nat × Nat) := bif Nat.blt b n then some (b, v) else none
def resV (P : Program) (n : Nat) (σ : St U) : List (ResultVar × Nat) → Option (List (V U))
  | [] => some []
  | (.tmp t, ty) :: l => match getA σ.tm t, resV P n σ l with
    | some (.v x), some r => some (renV (keepG n) (typV P ty x) :: r)
    | _, _ => none
  | (.cell t ty, _) :: l => match getA σ.tm t, resV P n σ l with
    | some (.v (.one (.ptr b o))), some r => (match nth σ.hp b with
      | some (.cells cs) => (match cutC P cs o (P.cellsOf ty) with
        | some q => (match mkV P ty q with | some v => some (renV (keepG n) v :: r) | none => none)
        | none => none)
      | _ => none)
    | _, _ => none
def firstB : Nat → List (Blk U) → List (Blk U)
  | 0, _ => []
  | _, [] => []
  | n + 1, b :: r => b :: firstB n r
def outB (n : Nat) : List (Blk U) → List (Blk U)
  | [] => []
  | .cells cs :: r => .cells (cs.map (renC (keepG n))) :: outB n r
  | b :: r => b :: outB n r
/-- are all rows at version 0 -/
def rows0 : List (Blk U) → Bool
  | [] => true
  | .row _ v _ :: r => bif Nat.beq v 0 then rows0 r else false
  | _ :: r => rows0 r
def argsT : Nat → List (V U) → List (Nat × D U)
  | _, [] => []
  | i, x :: l => (i, .v x) :: argsT (i + 1) l
/-- a whole function -/
def execF (E : Env U) (f : Func) (args : List (V U)) (hp : List (Blk U)) : Tree (List (V U) × List (Blk U)) :=
  bif Nat.beq hp.length E.n0 && rows0 hp && Nat.beq f.ntmps E.nt && Nat.ble args.length f.ntmps && Nat.beq f.results.size f.resultTypes.size then match f.body with
  | some c => (exec E c 0 { tm := argsT 0 args, hp }).bind fun p => match p.1 with
    | .exit _ => .fail
    | _ =>
      let σ := frzS E.n0 p.2
      match resV E.P E.n0 σ (f.results.toList.zip f.resultTypes.toList) with
      | some vs => .leaf (vs, outB E.n0 (firstB E.n0 σ.hp))
      | none => .fail
  | none => .fail
  else .fail

end
end Go.Ab
