/- Conversions, struct values, new blocks. -/
import GoSem.Dispatch
import Derived.Orders
import Derived.Laws.AppendOwn
import Derived.Lib.FrozenHead
import Derived.Laws.CopyRow
import Derived.Laws.IdiomCopy
import Derived.Laws.NewFold
import Derived.Laws.Entries
import Derived.Laws.StructEq
import Derived.Laws.BytesArg
import Derived.Laws.IdiomStrings
import Derived.Great.BuildSlice
import Derived.Great.FillDense
import Derived.Lib.ConvBytes
section
namespace Go.Ab

inductive Tree (α : Type) : Type 1
  | leaf (a : α)
  | fail
  | ite (b : Bool) (t e : Tree α)
  | opt (β : Type) (o : Option β) (f : β → Tree α)

namespace Tree
variable {α β : Type}
def bind : Tree α → (α → Tree β) → Tree β
  | .leaf a, f => f a
  | .fail, _ => .fail
  | .ite b t e, f => .ite b (t.bind f) (e.bind f)
  | .opt γ o g, f => .opt γ o fun x => (g x).bind f
def map (f : α → β) : Tree α → Tree β
  | .leaf a => .leaf (f a)
  | .fail => .fail
  | .ite b t e => .ite b (t.map f) (e.map f)
  | .opt γ o g => .opt γ o fun x => (g x).map f
def run : Tree α → Option α
  | .leaf a => some a
  | .fail => none
  | .ite b t e => if b = true then t.run else e.run
  | .opt _ o g => o.bind fun x => (g x).run
end Tree

inductive C (U : Nat → Type) : Type
  | unk
  | skp
  | kb (b : Bool)
  | bool (b : Bool)
  | int (k : IntKind) (n : Int)
  | str (s : List UInt8)
  | nils
  | sl (t : Nat) (l : List (U t)) (full : Bool)
  | row (b v : Nat)
  | own (b v lo len : Nat)
  | ptr (b o : Nat)
  | elp (b v i sub : Nat)
  | ap (b o t i sub : Nat)
  | asl (b o t n : Nat)
  | gp (g o : Nat)
  | xp (t : Nat) (x : U t) (sub : Nat)
  | arr (t n : Nat) (l : List (U t))
  | fn (f : Nat) (first caps : List (C U))
  | nilp
  /-- a map of numbers, taken for good, in which these are true -/
  | mp (l : List Int)

inductive V (U : Nat → Type) : Type
  | one (c : C U)
  | agg (cs : List (C U))
inductive D (U : Nat → Type) : Type
  | v (x : V U)
  | tup (vs : List (V U))
inductive Blk (U : Nat → Type) : Type
  | dead
  | cells (cs : List (C U)) (tg : Option Nat)
  | row (t ver : Nat) (l : List (U t))
  /-- a row that was made of a string: nothing is appended to it -/
  | mrow (t ver : Nat) (l : List (U t))
structure St (U : Nat → Type) where
  tm : List (Nat × D U)
  hp : List (Blk U)

structure Cd (U : Nat → Type) where
  has : Nat → Bool
  enc : (t : Nat) → U t → List (C U)
  dec : (t : Nat) → List (C U) → Option (U t)
  zero : (t : Nat) → Option (U t)
  /-- elements that are bytes -/
  bytes : (t : Nat) → List (U t) → Option (List UInt8)
  ofBytes : (t : Nat) → List UInt8 → Option (List (U t))
  deq : (t : Nat) → Option (DecidableEq (U t))
  /-- what package-level variables hold that nothing writes to -/
  gl : Nat → List Value := fun _ => []

structure FnOut (U : Nat → Type) : Type 1 where
  β : Type
  o : Option β
  out : β → Tree (List (V U) × List (Blk U))
inductive Ex
  | norm
  | exit (id : Nat)
  | ret
  deriving DecidableEq
structure LpOut (U : Nat → Type) : Type 1 where
  β : Type
  o : Option β
  out : β → Tree (Ex × St U)

structure Hd where
  keep : List Nat
  xkeep : List Nat
  own : Bool
  /-- do the handed rows count as changed from the head on -/
  bump : Bool := false
inductive Fp where
  | none
  | rd (l : List Nat)
  | wr (l : List Nat) (n : Nat)
def Keeps {U : Nat → Type} (s : List (V U) → List (Blk U) → Option (FnOut U)) (js : List Nat) : Prop :=
  ∀ args hp r, s args hp = some r → ∀ x, r.o = some x → ∀ p, (r.out x).run = some p → ∀ j, j ∈ js → p.2[j]? = hp[j]?
structure Env (U : Nat → Type) : Type 1 where
  P : Program
  cd : Cd U
  /-- functions by their numbers: does it leave memory alone; what it comes to -/
  fns : Nat → Option (Bool × (List (V U) → List (Blk U) → Option (FnOut U)))
  /-- loops by their places: the temporaries that are kept at its head; what it comes to -/
  lps : Nat → Option (Hd × (St U → Option (LpOut U)))
  /-- regions before which all rows are taken for good -/
  frz : Nat → Bool
  /-- the function's temporaries -/
  nt : Nat
  /-- the blocks that it is handed -/
  n0 : Nat
  fps : Nat → Nat → Fp := fun _ _ => .none
  /-- which of the blocks that it is handed a function leaves as they are -/
  kps : Nat → List Nat := fun _ => []
  /-- the temporaries whose slices are made as such that nothing writes to -/
  mks : Nat → Bool := fun _ => false
  /-- regions before which empty slices become rows -/
  ownr : Nat → Bool := fun _ => false
  /-- do the handed rows count as changed at the end -/
  bump : Bool := false
  kok : ∀ f q s, fns f = some (q, s) → Keeps s (kps f) := by exact fun _ _ _ _ _ _ _ _ _ _ _ _ _ h => absurd h List.not_mem_nil

section
variable {U : Nat → Type}

/-! ### lists -/
def getA {α : Type} : List (Nat × α) → Nat → Option α
  | [], _ => none
  | (k, x) :: l, i => bif Nat.beq k i then some x else getA l i
def putA {α : Type} : List (Nat × α) → Nat → α → List (Nat × α)
  | [], i, y => [(i, y)]
  | (k, x) :: l, i, y => bif Nat.beq k i then (k, y) :: l else bif Nat.blt i k then (i, y) :: (k, x) :: l else (k, x) :: putA l i y
def nth {α : Type} : List α → Nat → Option α
  | [], _ => none
  | x :: l, i => bif Nat.beq i 0 then some x else nth l (i - 1)
def setN {α : Type} : List α → Nat → α → List α
  | [], _, _ => []
  | x :: l, i, y => bif Nat.beq i 0 then y :: l else x :: setN l (i - 1) y
def memN : List Nat → Nat → Bool
  | [], _ => false
  | x :: l, i => bif Nat.beq x i then true else memN l i
def posN : List Nat → Nat → Nat → Option Nat
  | [], _, _ => none
  | x :: l, i, j => bif Nat.beq x i then some j else posN l i (j + 1)
def optL {α : Type} : List (Option α) → Option (List α)
  | [] => some []
  | none :: _ => none
  | some x :: l => match optL l with | some r => some (x :: r) | none => none

/-! ### cells -/
def szC (P : Program) : C U → Nat
  | .arr t n _ => n * P.cellsOf t
  | _ => 1
def szL (P : Program) : List (C U) → Nat
  | [] => 0
  | c :: l => szC P c + szL P l
def dropC (P : Program) : List (C U) → Nat → Option (List (C U))
  | [], o => bif Nat.beq o 0 then some [] else none
  | c :: cs, o => bif Nat.beq o 0 then some (c :: cs) else bif Nat.ble (szC P c) o then dropC P cs (o - szC P c) else none
def takeC (P : Program) : List (C U) → Nat → Option (List (C U))
  | [], o => bif Nat.beq o 0 then some [] else none
  | c :: cs, o => bif Nat.beq o 0 then some [] else bif Nat.ble (szC P c) o then (match takeC P cs (o - szC P c) with | some r => some (c :: r) | none => none) else none
def cutC (P : Program) (cs : List (C U)) (o n : Nat) : Option (List (C U)) :=
  match dropC P cs o with
  | some r => takeC P r n
  | none => none
def putC (P : Program) (new : List (C U)) (n : Nat) : List (C U) → Nat → Option (List (C U))
  | [], o => bif Nat.beq o 0 then (bif Nat.beq n 0 then some new else none) else none
  | c :: cs, o => bif Nat.beq o 0 then (match dropC P (c :: cs) n with | some r => some (new ++ r) | none => none)
    else bif Nat.ble (szC P c) o then (match putC P new n cs (o - szC P c) with | some r => some (c :: r) | none => none) else none
def atC (P : Program) (cs : List (C U)) (o : Nat) : Option (C U) :=
  match dropC P cs o with
  | some (c :: _) => some c
  | _ => none

def isAggB (P : Program) (t : Nat) : Bool := match P.underlying t with
  | some (.struct _) => true
  | some (.array _ _) => true
  | _ => false
def V.cells : V U → List (C U)
  | .one c => [c]
  | .agg cs => cs
def mkV (P : Program) (t : Nat) (cs : List (C U)) : Option (V U) :=
  match P.underlying t with
  | none => none
  | some _ => bif isAggB P t then some (.agg cs) else match cs with
    | [.arr _ _ _] => none
    | [c] => some (.one c)
    | _ => none

def leafOf (P : Program) : Nat → Nat → Nat × Nat
  | 0, t => (t, 1)
  | f + 1, t => match P.underlying t with
    | some (.array n e) => let r := leafOf P f e; (r.1, n * r.2)
    | _ => (t, 1)
def arrOk (P : Program) : Nat → Nat → Bool
  | 0, _ => true
  | f + 1, t => match P.underlying t with
    | some (.array n e) => bif (P.underlying e).isSome && Nat.beq (P.cellsOf t) (n * P.cellsOf e) then arrOk P f e else false
    | _ => true
def azero (P : Program) (cd : Cd U) : Nat → Nat → Option (List (C U))
  | 0, _ => none
  | f + 1, t => match P.underlying t with
    | some .bool => some [.bool false]
    | some (.int k) => some [.int k 0]
    | some .string => some [.str []]
    | some (.slice e) => some [.sl e [] true]
    | some (.pointer _) => some [.nilp]
    | some (.struct fs) => fs.toList.foldr (fun f' acc => match azero P cd f f'.type, acc with | some a, some b => some (a ++ b) | _, _ => none) (some [])
    | some (.array n e) =>
      let r := leafOf P f e
      bif cd.has t then (match cd.zero t with | some z => some (cd.enc t z) | none => none) else
      bif cd.has r.1 then (match cd.zero r.1 with | some z => some [.arr r.1 (n * r.2) (List.replicate (n * r.2) z)] | none => none)
      else (match azero P cd f e with | some a => some ((List.replicate n a).flatten) | none => none)
    | _ => none

def leaf (cd : Cd U) : C U → List (C U)
  | .arr t _ l => l.flatMap (cd.enc t)
  | c => [c]
def leaves (cd : Cd U) (cs : List (C U)) : List (C U) := cs.flatMap (leaf cd)
def okAB : List (C U) → Bool
  | [] => true
  | .arr _ n l :: cs => bif Nat.beq l.length n then okAB cs else false
  | _ :: cs => okAB cs
def match1 : C U → Value → Bool
  | .bool b, .bool c => b == c
  | .int k n, .int k' m => decide (k = k') && decide (n = m)
  | .str s, .string t => decide (s = t.data.toList)
  | .sl _ [] _, .slice none 0 0 => true
  | .nilp, .pointer none => true
  | _, _ => false
def matchL : List (C U) → List Value → Bool
  | [], [] => true
  | c :: cs, v :: vs => bif match1 c v then matchL cs vs else false
  | _, _ => false
def zeroC (P : Program) (cd : Cd U) (t : Nat) : Option (List (C U)) := match azero P cd 12 t, P.info? t with
  | some cs, some i => (match i.zero with
    | some z => bif okAB cs && matchL (leaves cd cs) z.cells.toList then some cs else none
    | none => none)
  | _, _ => none
def zeroE (P : Program) (cd : Cd U) (t : Nat) : Option (U t) := match cd.zero t, P.info? t with
  | some x, some i => (match i.zero with
    | some z => bif matchL (cd.enc t x) z.cells.toList then some x else none
    | none => none)
  | _, _ => none

def ofVal1 : Value → C U
  | .bool b => .kb b
  | .int k n => .int k n
  | .string s => .str s.data.toList
  | .slice none 0 0 => .nils
  | .pointer none => .nilp
  | _ => .unk
def ofVal : Value → D U
  | .agg cs => .v (.agg (cs.toList.map ofVal1))
  | v => .v (.one (ofVal1 v))
def ev (tm : List (Nat × D U)) : Operand → D U
  | .tmp t => match getA tm t with | some d => d | none => .v (.one .unk)
  | .const v => ofVal v
  | .global g => .v (.one (.gp g 0))
  | .func f => .v (.one (.fn f [] []))
def typC (P : Program) (t : Nat) : C U → C U
  | .nils => match P.underlying t with | some (.slice e) => .sl e [] true | _ => .nils
  | c => c
def typV (P : Program) (t : Nat) : V U → V U
  | .one c => .one (typC P t c)
  | v => v
def typD (P : Program) (t : Nat) : D U → D U
  | .v x => .v (typV P t x)
  | d => d

/-! ### what an operation does -/
inductive K (U : Nat → Type) : Type 1
  | pur (t : Tree (D U))
  | alo (t : Tree (Blk U)) (mk : Nat → C U)
  | lod (b : Nat) (f : Blk U → Tree (D U))
  | wri (f : List (Blk U) → Nat → Tree (D U × List (Blk U)))

def one (c : C U) : Tree (D U) := .leaf (.v (.one c))
def asB : C U → Option Bool
  | .kb b => some b
  | .bool b => some b
  | _ => none

def eqT (P : Program) (cd : Cd U) (deep : Bool) : Nat → Nat → List (C U) → List (C U) → Option Bool
  | 0, _, _, _ => none
  | f + 1, t, xs, ys => match P.underlying t with
    | some .bool => (match xs, ys with
      | [a], [b] => (match asB a, asB b with | some x, some y => some (x == y) | _, _ => none)
      | _, _ => none)
    | some (.int _) => (match xs, ys with
      | [.int k a], [.int k' b] => bif decide (k = k') then some (decide (a = b)) else none
      | _, _ => none)
    | some .string => (match xs, ys with
      | [.str a], [.str b] => some (decide (a = b))
      | _, _ => none)
    | some (.struct fs) => bif P.stoodInHeld t then none else fields (eqT P cd deep f) fs.toList xs ys
    | some (.array n e) => (match xs, ys with
      | [.arr te m a], [.arr te' m' b] => if h : te = te' then (match cd.deq te' with
        | some d => let r := leafOf P 9 e; bif deep && arrOk P 10 t && Nat.beq te' r.1 && Nat.beq m (n * r.2) && Nat.beq m' m then some (@decide (h ▸ a = b) (@instDecidableEqList _ d _ _)) else none
        | none => none) else none
      | _, _ => none)
    | _ => none
where fields (g : Nat → List (C U) → List (C U) → Option Bool) : List Field → List (C U) → List (C U) → Option Bool
  | [], _, _ => some true
  | [f], xs, ys => bif f.name == "_" then none else (match cutC P xs f.offset (P.cellsOf f.type), cutC P ys f.offset (P.cellsOf f.type) with | some a, some b => g f.type a b | _, _ => none)
  | f :: fs, xs, ys => bif f.name == "_" then none else (match cutC P xs f.offset (P.cellsOf f.type), cutC P ys f.offset (P.cellsOf f.type) with
    | some a, some b => (match g f.type a b, fields g fs xs ys with | some x, some y => some (x && y) | _, _ => none)
    | _, _ => none)
def eqV (P : Program) (cd : Cd U) (t : Nat) (x y : V U) : Option Bool :=
  bif P.eqGuardType P.depth t then none else bif isAggB P t then (match x, y with | .agg a, .agg b => eqT P cd true 8 t a b | _, _ => none) else (match x, y with | .one a, .one b => eqT P cd true 8 t [a] [b] | _, _ => none)

def binK (P : Program) (cd : Cd U) (t : Nat) (op : BinOp) : V U → V U → K U
  | .one (.int k a), .one (.int k' b) => match op with
    | .shl => .pur (.ite (decide (0 ≤ b)) (one (.int k (k.wrap (a * 2 ^ (min b.toNat k.bits))))) .fail)
    | .shr => .pur (.ite (decide (0 ≤ b)) (one (.int k (a.fdiv (2 ^ (min b.toNat k.bits))))) .fail)
    | op => bif decide (k = k') then (match op with
      | .add => .pur (one (.int k (k.wrap (a + b))))
      | .sub => .pur (one (.int k (k.wrap (a - b))))
      | .mul => .pur (one (.int k (k.wrap (a * b))))
      | .quo => .pur (.ite (decide (b = 0)) .fail (one (.int k (k.wrap (a.tdiv b)))))
      | .rem => .pur (.ite (decide (b = 0)) .fail (one (.int k (a.tmod b))))
      | .and => .pur (one (.int k (k.wrap ((BitVec.ofInt k.bits a &&& BitVec.ofInt k.bits b).toNat))))
      | .or => .pur (one (.int k (k.wrap ((BitVec.ofInt k.bits a ||| BitVec.ofInt k.bits b).toNat))))
      | .xor => .pur (one (.int k (k.wrap ((BitVec.ofInt k.bits a ^^^ BitVec.ofInt k.bits b).toNat))))
      | .andNot => .pur (one (.int k (k.wrap ((BitVec.ofInt k.bits a &&& ~~~BitVec.ofInt k.bits b).toNat))))
      | .eql => .pur (one (.bool (decide (a = b))))
      | .neq => .pur (one (.bool (!decide (a = b))))
      | .lss => .pur (one (.bool (decide (a < b))))
      | .leq => .pur (one (.bool (decide (a ≤ b))))
      | .gtr => .pur (one (.bool (decide (b < a))))
      | .geq => .pur (one (.bool (decide (b ≤ a))))
      | _ => .pur .fail) else .pur .fail
  | .one (.str a), .one (.str b) => match op with
    | .add => .pur (.ite (decide (a.length + b.length ≤ 9223372036854775807)) (one (.str (a ++ b))) .fail)
    | .eql => .pur (one (.bool (decide (a = b))))
    | .neq => .pur (one (.bool (!decide (a = b))))
    | _ => .pur .fail
  | x, y => match op with
    | .eql => .pur (match eqV P cd t x y with | some b => one (.bool b) | none => .fail)
    | .neq => .pur (match eqV P cd t x y with | some b => one (.bool (!b)) | none => .fail)
    | _ => .pur .fail
def unK (op : UnOp) : V U → K U
  | .one (.int k a) => match op with
    | .neg => .pur (one (.int k (k.wrap (0 - a))))
    | .xor => .pur (one (.int k (k.wrap ((BitVec.ofInt k.bits (if k.signed then -1 else k.max) ^^^ BitVec.ofInt k.bits a).toNat))))
    | _ => .pur .fail
  | .one (.kb b) => match op with | .not => .pur (one (.kb (!b))) | _ => .pur .fail
  | .one (.bool b) => match op with | .not => .pur (one (.bool (!b))) | _ => .pur .fail
  | _ => .pur .fail

def elemT {α β : Type} (l : List α) (i : Int) (f : α → Tree β) : Tree β :=
  .ite (decide (0 ≤ i)) (.opt α l[i.toNat]? f) .fail
def slOf (P : Program) (t te : Nat) : Bool := match P.underlying t with
  | some (.slice e) => bif Nat.beq e te then (P.underlying e).isSome else false
  | _ => false
def z10l (P : Program) (t : Nat) : V U → V U → K U
  | .one (.sl te l _), .one (.int _ i) => .pur (bif slOf P t te then elemT l i fun x => one (.xp te x 0) else .fail)
  | .one (.row b v), .one (.int _ i) => .lod b fun
    | .row te v' l => bif slOf P t te && Nat.beq v v' then .ite (decide (0 ≤ i)) (.ite (decide (i < (l.length : Int))) (one (.elp b v i.toNat 0)) .fail) .fail else .fail
    | .mrow te v' l => bif slOf P t te && Nat.beq v v' then .ite (decide (0 ≤ i)) (.ite (decide (i < (l.length : Int))) (one (.elp b v i.toNat 0)) .fail) .fail else .fail
    | _ => .fail
  | .one (.own b v lo len), .one (.int _ i) => .lod b fun
    | .row te v' _ => bif slOf P t te && Nat.beq v v' then .ite (decide (0 ≤ i)) (.ite (decide (i < (len : Int))) (one (.elp b v (lo + i.toNat) 0)) .fail) .fail else .fail
    | _ => .fail
  | .one (.asl b o te n), .one (.int _ i) => .pur (bif slOf P t te then .ite (decide (0 ≤ i)) (.ite (decide (i < ((n : Nat) : Int))) (one (.ap b o te i.toNat 0)) .fail) .fail else .fail)
  | .one (.ptr b o), .one (.int _ i) => match P.underlying t with
    | some (.array n e) =>
      let r := leafOf P 9 e
      .lod b fun
        | .cells cs _ => match atC P cs o with
          | some (.arr t' _ _) => bif arrOk P 10 t && Nat.beq t' r.1 then .ite (decide (0 ≤ i)) (.ite (decide (i < (n : Int))) (one (.ap b o t' (i.toNat * r.2) 0)) .fail) .fail else .fail
          | some _ => (match i with
            | .ofNat k => bif Nat.blt k n && (P.underlying e).isSome then one (.ptr b (o + k * P.cellsOf e)) else .fail
            | _ => .fail)
          | _ => .fail
        | _ => .fail
    | _ => .pur .fail
  | .one (.ap b o te j 0), .one (.int _ i) => match P.underlying t with
    | some (.array n e) =>
      let r := leafOf P 9 e
      .pur (bif arrOk P 10 t && Nat.beq te r.1 then .ite (decide (0 ≤ i)) (.ite (decide (i < (n : Int))) (one (.ap b o te (j + i.toNat * r.2) 0)) .fail) .fail else .fail)
    | _ => .pur .fail
  | _, _ => .pur .fail
def partE (P : Program) (cd : Cd U) (t te : Nat) (x : U te) (sub : Nat) : Tree (D U) :=
  match cutC P (cd.enc te x) sub (P.cellsOf t) with
  | some cs => (match mkV P t cs with | some v => .leaf (.v v) | none => .fail)
  | none => .fail
def manyOf (P : Program) (t te : Nat) : Option Nat := match P.underlying t with
  | some (.array _ _) => let r := leafOf P 9 t; bif arrOk P 9 t && Nat.beq r.1 te then some r.2 else none
  | _ => none
def loadK (P : Program) (cd : Cd U) (t : Nat) : V U → K U
  | .one (.ptr b o) => .lod b fun
    | .cells cs _ => match cutC P cs o (P.cellsOf t) with
      | some r => (match mkV P t r with | some v => .leaf (.v v) | none => .fail)
      | none => .fail
    | _ => .fail
  | .one (.elp b v i sub) => .lod b fun
    | .row te v' l => bif Nat.beq v v' then .opt (U te) l[i]? fun x => partE P cd t te x sub else .fail
    | .mrow te v' l => bif Nat.beq v v' then .opt (U te) l[i]? fun x => partE P cd t te x sub else .fail
    | _ => .fail
  | .one (.xp te x sub) => .pur (partE P cd t te x sub)
  | .one (.gp g o) => .pur (match cutC P ((cd.gl g).map ofVal1) o (P.cellsOf t) with
    | some r => (match mkV P t r with | some v => .leaf (.v v) | none => .fail)
    | none => .fail)
  | .one (.ap b o te i sub) => .lod b fun
    | .cells cs _ => match atC P cs o with
      | some (.arr t' _ l) => bif Nat.beq t' te then (match manyOf P t te with
        | some m => bif Nat.beq sub 0 then one' (.agg [.arr t' m ((l.drop i).take m)]) m i l else .fail
        | none => .opt (U t') l[i]? fun x => partE P cd t t' x sub) else .fail
      | _ => .fail
    | _ => .fail
  | _ => .pur .fail
where one' {te : Nat} (v : V U) (m i : Nat) (l : List (U te)) : Tree (D U) := .ite (decide (i + m ≤ l.length)) (.leaf (.v v)) .fail

def solid : C U → Bool
  | .unk => false
  | .skp => false
  | _ => true
def solidL : List (C U) → Bool
  | [] => true
  | c :: l => bif solid c then solidL l else false
def fitL (P : Program) (cs : List (C U)) (n : Nat) : Bool := bif Nat.beq (szL P cs) n then solidL cs else false
def setE (P : Program) (cd : Cd U) (te : Nat) (x : U te) (sub n : Nat) (new : List (C U)) : Option (U te) :=
  match putC P new n (cd.enc te x) sub with
  | some cs => cd.dec te cs
  | none => none
def storeF (P : Program) (cd : Cd U) (t : Nat) (a x : V U) (hp : List (Blk U)) : Tree (D U × List (Blk U)) :=
  let done (h : List (Blk U)) : Tree (D U × List (Blk U)) := .leaf (.v (.one .skp), h)
  bif (P.info? t).isSome then match a with
  | .one (.ptr b o) => match nth hp b with
    | some (.cells cs tg) => (match bif fitL P x.cells (P.cellsOf t) then putC P x.cells (P.cellsOf t) cs o else none with
      | some r => done (setN hp b (.cells r tg))
      | none => .fail)
    | _ => .fail
  | .one (.elp b v i sub) => match nth hp b with
    | some (.row te v' l) => bif Nat.beq v v' then .opt (U te) l[i]? fun y =>
        (match bif fitL P x.cells (P.cellsOf t) then setE P cd te y sub (P.cellsOf t) x.cells else none with
        | some z => done (setN hp b (.row te v' (l.set i z)))
        | none => .fail) else .fail
    | some (.mrow te v' l) => bif Nat.beq v v' then .opt (U te) l[i]? fun y =>
        (match bif fitL P x.cells (P.cellsOf t) then setE P cd te y sub (P.cellsOf t) x.cells else none with
        | some z => done (setN hp b (.mrow te v' (l.set i z)))
        | none => .fail) else .fail
    | _ => .fail
  | .one (.ap b o te i sub) => match nth hp b with
    | some (.cells cs tg) => match atC P cs o with
      | some (.arr t' n l) => bif Nat.beq t' te then (match manyOf P t te with
        | some m => (match x with
          | .agg [.arr t'' m' l'] => if h : t'' = t' then bif Nat.beq m m' && Nat.beq sub 0 then
              .ite (decide (i + m ≤ l.length)) (match putC P [.arr t' n (l.take i ++ (h ▸ l') ++ l.drop (i + m))] (n * P.cellsOf t') cs o with
                | some r => done (setN hp b (.cells r tg))
                | none => .fail) .fail else .fail else .fail
          | _ => .fail)
        | none => .opt (U t') l[i]? fun y =>
          (match bif fitL P x.cells (P.cellsOf t) then setE P cd t' y sub (P.cellsOf t) x.cells else none with
          | some z => (match putC P [.arr t' n (l.set i z)] (n * P.cellsOf t') cs o with
            | some r => done (setN hp b (.cells r tg))
            | none => .fail)
          | none => .fail)) else .fail
      | _ => .fail
    | _ => .fail
  | _ => .fail
  else .fail

def zgp (P : Program) (t f : Nat) : Option (Nat × Nat) := match P.underlying t with
  | some (.struct fs) => match fs.toList[f]? with
    | some f' => some (f'.offset, f'.type)
    | none => none
  | _ => none
def fieldAd (P : Program) (t f : Nat) : Option Nat := match zgp P t f with
  | some (q, tf) => bif (P.underlying tf).isSome && !Nat.beq (P.cellsOf tf) 0 then some q else none
  | none => none
def z10h (P : Program) (t f : Nat) : V U → K U
  | .one (.ptr b o) => match fieldAd P t f with | some q => .pur (one (.ptr b (o + q))) | none => .pur .fail
  | .one (.elp b v i s) => match fieldAd P t f with
    | some q => .lod b fun
      | .row _ v' _ => bif Nat.beq v v' then one (.elp b v i (s + q)) else .fail
      | _ => .fail
    | none => .pur .fail
  | .one (.xp te x s) => match fieldAd P t f with | some q => .pur (one (.xp te x (s + q))) | none => .pur .fail
  | .one (.ap b o te i s) => match fieldAd P t f with | some q => .pur (one (.ap b o te i (s + q))) | none => .pur .fail
  | _ => .pur .fail
def fieldK (P : Program) (t f : Nat) : V U → K U
  | .agg cs => match zgp P t f with
    | some (q, tf) => (match cutC P cs q (P.cellsOf tf) with
      | some r => (match mkV P tf r with | some v => .pur (.leaf (.v v)) | none => .pur .fail)
      | none => .pur .fail)
    | none => .pur .fail
  | _ => .pur .fail
def indexK (P : Program) (cd : Cd U) (t : Nat) : V U → V U → K U
  | .one (.str s), .one (.int _ i) => .pur (match P.underlying t with
    | some .string => elemT s i fun b => one (.int .u8 b.toNat)
    | _ => .fail)
  | .agg [.arr te _ l], .one (.int _ i) => match P.underlying t with
    | some (.array n e) => bif arrOk P 10 t then .pur (match manyOf P e te with
      | some m => .ite (decide (0 ≤ i)) (.ite (decide (i < (n : Int))) (.ite (decide (i.toNat * m + m ≤ l.length)) (.leaf (.v (.agg [.arr te m ((l.drop (i.toNat * m)).take m)]))) .fail) .fail) .fail
      | none => .ite (decide (0 ≤ i)) (.ite (decide (i < (n : Int))) (bif Nat.beq (P.cellsOf te) (P.cellsOf e) then .opt (U te) l[i.toNat]? fun x => partE P cd e te x 0 else .fail) .fail) .fail) else .pur .fail
    | _ => .pur .fail
  | _, _ => .pur .fail

def tagged (P : Program) : Nat → Nat → Bool
  | 0, _ => false
  | f + 1, t => match P.underlying t with
    | some (.struct fs) => (match fs[0]? with
      | some g => (match P.underlying g.type with
        | some (.pointer u) => Nat.beq u t
        | _ => tagged P f g.type)
      | none => false)
    | _ => false
def tagT (P : Program) (f t : Nat) : Option Nat := bif tagged P f t then some t else none
def boxB (P : Program) (t : Nat) (x : V U) : Tree (Blk U) :=
  bif fitL P x.cells (P.cellsOf t) then .leaf (.cells x.cells (tagT P 4 t)) else .fail
def fillC (P : Program) (place : Nat → Option (Nat × Nat)) (cs : List (C U)) : List (Nat × V U) → Option (List (C U))
  | [] => some cs
  | (i, x) :: r => match place i with
    | some (o, n) => bif fitL P x.cells n then (match putC P x.cells n cs o with | some cs' => fillC P place cs' r | none => none) else none
    | none => none
def zh0 (P : Program) (ft : Nat → Nat) : List (Nat × D U) → Option (List (Nat × V U))
  | [] => some []
  | (i, .v x) :: r => match zh0 P ft r with | some r' => some ((i, typV P (ft i) x) :: r') | none => none
  | _ :: _ => none
def buildT (P : Program) (cd : Cd U) (t : Nat) (parts : List (Nat × D U)) : Tree (D U) :=
  match zeroC P cd t, P.underlying t with
  | some z, some (.struct fs) => bif fs.toList.all (fun f => (P.info? f.type).isSome) then (match zh0 P (fun i => ((zgp P t i).map (·.2)).getD 0) parts with
    | some ps => (match fillC P (fun i => (zgp P t i).map fun q => (q.1, P.cellsOf q.2)) z ps with
      | some cs => .leaf (.v (.agg cs))
      | none => .fail)
    | none => .fail) else .fail
  | some z, some (.array n e) => bif (P.info? e).isSome then (match zh0 P (fun _ => e) parts with
    | some ps => arrT n e z ps
    | none => .fail) else .fail
  | _, _ => .fail
where
  arrT (m e : Nat) (z : List (C U)) (ps : List (Nat × V U)) : Tree (D U) := match z with
    | [.arr te n l] => bif Nat.beq te e then (match arrFill te l ps with | some l' => .leaf (.v (.agg [.arr te n l'])) | none => .fail) else .fail
    | z => (match fillC P (fun i => some (i * P.cellsOf e, P.cellsOf e)) z ps with | some cs => .leaf (.v (.agg cs)) | none => .fail)
  arrFill (te : Nat) (l : List (U te)) : List (Nat × V U) → Option (List (U te))
    | [] => some l
    | (i, x) :: r => bif Nat.blt i l.length && fitL P x.cells (P.cellsOf te) then (match cd.dec te x.cells with | some y => arrFill te (setN l i y) r | none => none) else none
def zl4 (P : Program) (cd : Cd U) (e : Nat) : Nat → List (Nat × D U) → Option (List (U e))
  | _, [] => some []
  | j, (i, .v x) :: r => bif Nat.beq i j && fitL P (typV P e x).cells (P.cellsOf e) then (match cd.dec e (typV P e x).cells, zl4 P cd e (j + 1) r with | some y, some l => some (y :: l) | _, _ => none) else none
  | _, _ => none
def zw6 (P : Program) (cd : Cd U) (t len : Nat) (parts : List (Nat × D U)) : Tree (Blk U) :=
  match P.underlying t with
  | some (.slice e) => bif (zeroE P cd e).isSome && Nat.beq parts.length len && Nat.ble (len * P.cellsOf e) 16777216 && Nat.blt 0 (P.cellsOf e) then (match zl4 P cd e 0 parts with | some l => .leaf (.row e 0 l) | none => .fail) else .fail
  | _ => .fail
def z10t (P : Program) (cd : Cd U) (t : Nat) : V U → V U → Tree (Blk U)
  | .one (.int .i64 n), .one (.int .i64 m) => match P.underlying t with
    | some (.slice e) => bif Nat.blt 0 (P.bytesOf e) then (match zeroE P cd e with
      | some z => .ite (decide (n = m)) (.ite (decide (0 ≤ n)) (.ite (decide ((P.bytesOf e : Int) * n ≤ 281474976710656)) (.leaf (.row e 0 (List.replicate n.toNat z))) .fail) .fail) .fail
      | none => .fail) else .fail
    | _ => .fail
  | _, _ => .fail

def bound : Option (D U) → Option (Option Int)
  | none => some none
  | some (.v (.one (.int _ i))) => some (some i)
  | _ => none
def cutT {α : Type} (n : Nat) (lo hi : Option Int) (f : Nat → Nat → Tree α) : Tree α :=
  match lo, hi with
  | none, none => f 0 n
  | none, some h => .ite (decide (0 ≤ h)) (.ite (decide (h ≤ (n : Int))) (f 0 h.toNat) .fail) .fail
  | some l, none => .ite (decide (0 ≤ l)) (.ite (decide (l ≤ (n : Int))) (f l.toNat n) .fail) .fail
  | some l, some h => .ite (decide (0 ≤ h)) (.ite (decide (h ≤ (n : Int))) (.ite (decide (0 ≤ l)) (.ite (decide (l ≤ h)) (f l.toNat h.toNat) .fail) .fail) .fail) .fail
def sliceK (P : Program) (t : Nat) (x : V U) (lo hi : Option (D U)) : K U :=
  match bound lo, bound hi with
  | some l, some h => (match x with
    | .one (.str s) => .pur (match P.underlying t with
      | some .string => cutT s.length l h fun a b => one (.str ((s.drop a).take (b - a)))
      | _ => .fail)
    | .one (.sl te s _) => .pur (bif slOf P t te then cutT s.length l h fun a b => one (.sl te ((s.drop a).take (b - a)) false) else .fail)
    | .one (.row b v) => .lod b fun
      | .row te v' s => bif slOf P t te && Nat.beq v v' then cutT s.length l h fun a c => one (.own b v a (c - a)) else .fail
      | _ => .fail
    | .one (.own b v o n) => .lod b fun
      | .row te v' _ => bif slOf P t te && Nat.beq v v' then cutT n l h fun a c => one (.own b v (o + a) (c - a)) else .fail
      | _ => .fail
    | .one (.ptr b o) => (match l, h, P.underlying t with
      | none, none, some (.array n e) => .lod b fun
        | .cells cs _ => (match atC P cs o with
          | some (.arr t' _ _) => bif Nat.beq t' e && (P.underlying e).isSome then one (.asl b o t' n) else .fail
          | _ => .fail)
        | _ => .fail
      | _, _, _ => .pur .fail)
    | _ => .pur .fail)
  | _, _ => .pur .fail

def byteSl (P : Program) (t te : Nat) : Bool := match P.underlying te with
  | some (.int .u8) => slOf P t te
  | _ => false
def convK (P : Program) (cd : Cd U) (mk : Bool) (src dst : Nat) (x : V U) : K U :=
  match P.underlying src, P.underlying dst with
  | some _, some (.int k) => (match x with
    | .one (.int _ n) => .pur (one (.int k (k.wrap n)))
    | _ => .pur .fail)
  | some .string, some .string => (match x with
    | .one (.str s) => .pur (one (.str s))
    | _ => .pur .fail)
  | some .string, some (.slice e) => (match x with
    | .one (.str s) => bif byteSl P dst e then (match cd.ofBytes e s with
      | some m => bif mk then (bif Nat.beq (P.cellsOf e) 1 then .wri fun hp _ => .ite (decide (m.length ≤ 140737488355328)) (.leaf (.v (.one (.row hp.length 0)), hp ++ [.mrow e 0 m])) .fail else .pur .fail) else .wri fun hp _ => .leaf (.v (.one (.sl e m false)), hp)
      | none => .pur .fail) else .pur .fail
    | _ => .pur .fail)
  | some (.slice _), some .string => (match x with
    | .one (.sl t l _) => .pur (bif byteSl P src t then (match cd.bytes t l with | some s => one (.str s) | none => .fail) else .fail)
    | .one (.row b v) => .lod b fun
      | .row t v' l => bif byteSl P src t && Nat.beq v v' then (match cd.bytes t l with | some s => one (.str s) | none => .fail) else .fail
      | .mrow t v' l => bif byteSl P src t && Nat.beq v v' then (match cd.bytes t l with | some s => one (.str s) | none => .fail) else .fail
      | _ => .fail
    | .one (.own b v lo n) => .lod b fun
      | .row t v' l => bif byteSl P src t && Nat.beq v v' then (match cd.bytes t ((l.drop lo).take n) with | some s => one (.str s) | none => .fail) else .fail
      | _ => .fail
    | _ => .pur .fail)
  | _, _ => .pur .fail

def memI : List Int → Int → Bool
  | [], _ => false
  | x :: l, n => bif decide (x = n) then true else memI l n
def mapIB (P : Program) (t : Nat) : Bool := match P.underlying t with
  | some (.map k e) => (match P.underlying k, P.info? e with
    | some (.int .i64), some i => (match i.zero with | some (.bool false) => true | _ => false)
    | _, _ => false)
  | _ => false
def lookK (P : Program) (t : Nat) : V U → V U → K U
  | .one (.mp l), .one (.int .i64 n) => bif mapIB P t then .pur (one (.bool (memI l n))) else .pur .fail
  | _, _ => .pur .fail

/-! ### built-in functions -/
def intV (n : Int) : Tree (D U) := one (.int .i64 n)
def lenK (P : Program) (t : Nat) (x : V U) : K U := match P.underlying t with
  | some .string => (match x with
    | .one (.str s) => .pur (intV s.length)
    | _ => .pur .fail)
  | some (.array n _) => .pur (intV n)
  | some (.slice _) => (match x with
    | .one (.sl _ l _) => .pur (intV l.length)
    | .one .nils => .pur (intV 0)
    | .one (.asl _ _ _ n) => .pur (intV n)
    | .one (.own b v _ n) => .lod b fun
      | .row _ v' _ => bif Nat.beq v v' then intV n else .fail
      | _ => .fail
    | .one (.row b v) => .lod b fun
      | .row _ v' l => bif Nat.beq v v' then intV l.length else .fail
      | .mrow _ v' l => bif Nat.beq v v' then intV l.length else .fail
      | _ => .fail
    | _ => .pur .fail)
  | _ => .pur .fail
def elemsOf (cd : Cd U) (te : Nat) (hp : List (Blk U)) : V U → Option (List (U te))
  | .one (.sl t l _) => if h : t = te then some (h ▸ l) else none
  | .one .nils => some []
  | .one (.str s) => cd.ofBytes te s
  | .one (.row b v) => match nth hp b with
    | some (.row t v' l) => if h : t = te then bif Nat.beq v v' then some (h ▸ l) else none else none
    | _ => none
  | .one (.own b v lo n) => match nth hp b with
    | some (.row t v' l) => if h : t = te then bif Nat.beq v v' then some ((h ▸ l).drop lo |>.take n) else none else none
    | _ => none
  | _ => none
def refOf : V U → Option Nat
  | .one (.row b _) => some b
  | .one (.own b _ _ _) => some b
  | _ => none
def refIs (y : V U) (b : Nat) : Bool := match refOf y with
  | some b' => Nat.beq b b'
  | none => false
def srcT (P : Program) (t : Nat) : Bool := match P.underlying t with
  | some (.slice _) => true
  | some .string => true
  | _ => false
def appendK (P : Program) (cd : Cd U) (t t2 : Nat) (x y : V U) : K U :=
  match P.underlying t with
  | some (.slice e) => bif srcT P t2 && (zeroE P cd e).isSome && Nat.blt 0 (P.bytesOf e) then .wri (fun hp id => go e x hp id) else .pur .fail
  | _ => .pur .fail
where
  fresh (e : Nat) (hp : List (Blk U)) (id : Nat) : Tree (D U × List (Blk U)) := match elemsOf cd e hp y with
    | some m => .ite (decide (m.length * P.bytesOf e ≤ 140737488355328)) (.leaf (.v (.one (.row id 0)), setN hp id (.row e 0 m))) .fail
    | none => .fail
  go (e : Nat) (x : V U) (hp : List (Blk U)) (id : Nat) : Tree (D U × List (Blk U)) := match x with
    | .one .nils => fresh e hp id
    | .one (.sl _ l true) => (match l with | [] => fresh e hp id | _ => .fail)
    | .one (.row b v) => match nth hp b with
      | some (.row t' v' l) => bif Nat.beq t' e && Nat.beq v v' && !refIs y b then (match elemsOf cd t' hp y with
        | some m => .ite (decide ((l.length + m.length) * P.bytesOf t' ≤ 140737488355328)) (.leaf (.v (.one (.row b (v + 1))), setN hp b (.row t' (v + 1) (l ++ m)))) .fail
        | none => .fail) else .fail
      | _ => .fail
    | _ => .fail
def copyK (P : Program) (cd : Cd U) (t : Nat) (x y : V U) : K U :=
  match P.underlying t with
  | some (.slice e) => bif (P.info? e).isSome then .wri (fun hp _ => match x with
    | .one (.row b v) => match nth hp b with
      | some (.row t' v' l) => bif Nat.beq t' e && Nat.beq v v' && !refIs y b then (match elemsOf cd t' hp y with
        | some m => .leaf (.v (.one (.int .i64 ((Nat.min m.length l.length : Nat) : Int))), setN hp b (.row t' v' (m.take l.length ++ l.drop m.length)))
        | none => .fail) else .fail
      | _ => .fail
    | _ => .fail) else .pur .fail
  | _ => .pur .fail
def clearK (P : Program) (cd : Cd U) (t : Nat) (x : V U) : K U :=
  match P.underlying t with
  | some (.slice e) => match zeroE P cd e with
    | some z => .wri (fun hp _ => match x with
      | .one (.own b v lo n) => match nth hp b with
        | some (.row t' v' l) => if h : e = t' then bif Nat.beq v v' then .leaf (.v (.one .unk), setN hp b (.row t' v' (l.take lo ++ List.replicate n (h ▸ z) ++ l.drop (lo + n)))) else .fail else .fail
        | _ => .fail
      | _ => .fail)
    | none => .pur .fail
  | _ => .pur .fail
def clrK (P : Program) (cd : Cd U) (b : Builtin) (vs : List (V U)) (ts : List Nat) : K U := match b, vs, ts with
  | .clear, [x], [t] => clearK P cd t x
  | _, _, _ => .pur .fail
def minmax (mx : Bool) : V U → List (V U) → Tree (D U)
  | x, [] => .leaf (.v x)
  | .one (.int k a), .one (.int k' b) :: r => bif decide (k = k') then minmax mx (.one (.int k (bif mx then (if b > a then b else a) else (if b < a then b else a)))) r else .fail
  | _, _ => .fail

/-! ### references, and blocks taken together -/
def refs1 : C U → List Nat
  | .row b _ => [b]
  | .own b _ _ _ => [b]
  | .ptr b _ => [b]
  | .elp b _ _ _ => [b]
  | .ap b _ _ _ _ => [b]
  | .asl b _ _ _ => [b]
  | _ => []
def refsL1 : List (C U) → List Nat
  | [] => []
  | c :: l => refs1 c ++ refsL1 l
def refsC : C U → List Nat
  | .fn _ a b => refsL1 a ++ refsL1 b
  | c => refs1 c
def refsL : List (C U) → List Nat
  | [] => []
  | c :: l => refsC c ++ refsL l
def refsV (x : V U) : List Nat := refsL x.cells
def refsVs : List (V U) → List Nat
  | [] => []
  | x :: l => refsV x ++ refsVs l
def refsB : Option (Blk U) → List Nat
  | some (.cells cs _) => refsL cs
  | _ => []
def dedup : List Nat → List Nat → List Nat
  | acc, [] => acc
  | acc, b :: l => bif memN acc b then dedup acc l else dedup (acc ++ [b]) l
def bfs (hp : List (Blk U)) : Nat → List Nat → List Nat
  | 0, l => l
  | f + 1, l => bfs hp f (dedup l (l.flatMap fun b => refsB (nth hp b)))
def ren1 (g : Nat → Nat → Option (Nat × Nat)) : C U → C U
  | .kb b => .bool b
  | .row b v => match g b v with | some (b', v') => .row b' v' | none => .unk
  | .own b v lo n => match g b v with | some (b', v') => .own b' v' lo n | none => .unk
  | .elp b v i s => match g b v with | some (b', v') => .elp b' v' i s | none => .unk
  | .ptr b o => match g b 0 with | some (b', _) => .ptr b' o | none => .unk
  | .ap b o t i s => match g b 0 with | some (b', _) => .ap b' o t i s | none => .unk
  | .asl b o t n => match g b 0 with | some (b', _) => .asl b' o t n | none => .unk
  | .fn f a b => match a, b with | [], [] => .fn f [] [] | _, _ => .unk
  | c => c
def renC (g : Nat → Nat → Option (Nat × Nat)) : C U → C U
  | .fn f a b => .fn f (a.map (ren1 g)) (b.map (ren1 g))
  | c => ren1 g c
def renV (g : Nat → Nat → Option (Nat × Nat)) : V U → V U
  | .one c => .one (renC g c)
  | .agg cs => .agg (cs.map (renC g))
def ver0 (n j v : Nat) : Nat := bif Nat.blt n 1000 then (bif Nat.blt j n then (bif Nat.beq v 0 then 0 else 1) else 0) else (bif Nat.blt j (n - 1000) then 1 else 0)
def into (n : Nat) (hp : List (Blk U)) (order : List Nat) (b v : Nat) : Option (Nat × Nat) :=
  match posN order b 0 with
  | some j => (match nth hp b with
    | some (.row _ v' _) => bif Nat.beq v v' then some (j, ver0 n j v') else none
    | some (.cells _ _) => some (j, 0)
    | some (.mrow _ v' _) => bif Nat.beq v v' then some (j, ver0 n j v') else none
    | _ => none)
  | none => none
def intoB (n : Nat) (hp : List (Blk U)) (order : List Nat) (j b : Nat) : Blk U := match nth hp b with
  | some (.cells cs tg) => .cells (cs.map (renC (into n hp order))) tg
  | some (.row t v l) => .row t (ver0 n j v) l
  | some (.mrow t v l) => .mrow t (ver0 n j v) l
  | _ => .dead
def intoHp (n : Nat) (hp : List (Blk U)) (order : List Nat) : Nat → List Nat → List (Blk U)
  | _, [] => []
  | j, b :: r => intoB n hp order j b :: intoHp n hp order (j + 1) r
def back (hp : List (Blk U)) (order : List Nat) (b v : Nat) : Option (Nat × Nat) :=
  match nth order b with
  | some b' => (match nth hp b' with
    | some (.row _ v' _) => some (b', v' + v)
    | some (.mrow _ v' _) => some (b', v' + v)
    | _ => some (b', v))
  | none => some (hp.length + (b - order.length), v)
def backB (hp : List (Blk U)) (order : List Nat) (j : Nat) : Blk U → Blk U
  | .cells cs tg => .cells (cs.map (renC (back hp order))) tg
  | .row t v l => .row t (match nth order j with | some b' => (match nth hp b' with | some (.row _ v' _) => v' + v | some (.mrow _ v' _) => v' + v | _ => v) | none => v) l
  | .mrow t v l => .mrow t (match nth order j with | some b' => (match nth hp b' with | some (.row _ v' _) => v' + v | some (.mrow _ v' _) => v' + v | _ => v) | none => v) l
  | .dead => .dead
def putBack (hp0 : List (Blk U)) (order0 : List Nat) : List Nat → Nat → List (Blk U) → List (Blk U) → Option (List (Blk U))
  | [], j, rest, hp => some (hp ++ go j rest)
  | b :: order, j, blk :: rest, hp => putBack hp0 order0 order (j + 1) rest (setN hp b (backB hp0 order0 j blk))
  | _ :: _, _, [], _ => none
where go : Nat → List (Blk U) → List (Blk U)
  | _, [] => []
  | j, blk :: r => backB hp0 order0 j blk :: go (j + 1) r

/-! ### rows taken for good: those from n on -/
def frz1 (n : Nat) (hp : List (Blk U)) : C U → C U
  | .kb b => .bool b
  | .nils => .nils
  | .sl t l _ => .sl t l false
  | .row b v => bif Nat.blt b n then .row b v else match nth hp b with
    | some (.row t v' l) => bif Nat.beq v v' then .sl t l false else .unk
    | _ => .unk
  | .own b v lo k => bif Nat.blt b n then .own b v lo k else match nth hp b with
    | some (.row t v' l) => bif Nat.beq v v' then .sl t ((l.drop lo).take k) false else .unk
    | _ => .unk
  | .elp b v i sub => bif Nat.blt b n then .elp b v i sub else .unk
  | .fn f a b => match a, b with | [], [] => .fn f [] [] | _, _ => .unk
  | c => c
def frzC (n : Nat) (hp : List (Blk U)) : C U → C U
  | .fn f a b => .fn f (a.map (frz1 n hp)) (b.map (frz1 n hp))
  | c => frz1 n hp c
def frzV (n : Nat) (hp : List (Blk U)) : V U → V U
  | .one c => .one (frzC n hp c)
  | .agg cs => .agg (cs.map (frzC n hp))
def frzD (n : Nat) (hp : List (Blk U)) : D U → D U
  | .v x => .v (frzV n hp x)
  | .tup vs => .tup (vs.map (frzV n hp))
def frzHp (n : Nat) (hp : List (Blk U)) : Nat → List (Blk U) → List (Blk U)
  | _, [] => []
  | j, .cells cs tg :: r => .cells (cs.map (frzC n hp)) tg :: frzHp n hp (j + 1) r
  | j, .row t v l :: r => (bif Nat.blt j n then .row t v l else .dead) :: frzHp n hp (j + 1) r
  | j, .mrow t v l :: r => (bif Nat.blt j n then .mrow t v l else .dead) :: frzHp n hp (j + 1) r
  | j, .dead :: r => .dead :: frzHp n hp (j + 1) r
def frzS (n : Nat) (σ : St U) : St U := { tm := σ.tm.map fun p => (p.1, frzD n σ.hp p.2), hp := frzHp n σ.hp 0 σ.hp }

/-! ### one form for each value -/
def canC : C U → C U
  | .kb b => .bool b
  | .sl t l _ => .sl t l false
  | c => c
def canV : V U → V U
  | .one c => .one (canC c)
  | .agg cs => .agg (cs.map canC)
def canD : D U → D U
  | .v x => .v (canV x)
  | .tup vs => .tup (vs.map canV)
def canN : C U → C U
  | .sl t [] f => .sl t [] f
  | c => canC c
def canT (tg : Option Nat) : C U → C U := match tg with
  | none => canC
  | some _ => canN
def canB : Blk U → Blk U
  | .cells cs tg => .cells (cs.map (canT tg)) tg
  | b => b
/-! ### calls -/
def resD : List (V U) → D U
  | [x] => .v x
  | l => .tup l
def valsOf (P : Program) : List (D U) → List Nat → Option (List (V U))
  | [], _ => some []
  | .v x :: l, t :: ts => match valsOf P l ts with | some r => some (typV P t x :: r) | none => none
  | .v x :: l, [] => match valsOf P l [] with | some r => some (x :: r) | none => none
  | _ :: _, _ => none
def nodupB : List Nat → Bool
  | [] => true
  | x :: l => bif memN l x then false else nodupB l
def ltAll (n : Nat) : List Nat → Bool
  | [] => true
  | x :: l => bif Nat.blt x n then ltAll n l else false
def callT (hp : List (Blk U)) (order : List Nat) (spec : List (V U) → List (Blk U) → Option (FnOut U)) (args : List (V U)) : Tree (D U × List (Blk U)) :=
  bif nodupB order && ltAll hp.length order then (match spec (args.map fun x => renV (into 0 hp order) (canV x)) ((intoHp 0 hp order 0 order).map canB) with
    | some r => .opt r.β r.o fun x => (r.out x).bind fun p => match putBack hp order order 0 p.2 hp with
      | some hp' => .leaf (resD (p.1.map (renV (back hp order))), hp')
      | none => .fail
    | none => .fail) else .fail
def callK (E : Env U) (f : Nat) (args : List (V U)) : K U :=
  match E.fns f with
  | some (true, spec) => (match spec (args.map fun x => renV (fun _ _ => none) (canV x)) [] with
    | some r => .pur (.opt r.β r.o fun x => (r.out x).bind fun p => match p with | (vs, []) => .leaf (resD (vs.map (renV fun _ _ => none))) | _ => .fail)
    | none => .pur .fail)
  | some (false, spec) => .wri fun hp _ => callT hp (bfs hp 3 (dedup [] (refsVs args))) spec args
  | none => .pur .fail

/-! ### operations -/
def vOf : D U → Option (V U)
  | .v x => some x
  | _ => none
def two (x y : D U) (f : V U → V U → K U) : K U := match vOf x, vOf y with
  | some a, some b => f a b
  | _, _ => .pur .fail
def oneK (x : D U) (f : V U → K U) : K U := match vOf x with
  | some a => f a
  | _ => .pur .fail
def mkF (E : Env U) (o : Oper) : Bool := match o.dst with
  | some t => E.mks t
  | none => false
def frzT (T : Tree (Blk U)) : Tree (D U) := T.bind fun
  | .row e _ l => one (.sl e l false)
  | _ => .fail
def rowK (b : Bool) (T : Tree (Blk U)) : K U := bif b then .pur (frzT T) else .alo T fun id => .row id 0
def opK (E : Env U) (ρ : Operand → D U) (o : Oper) : K U :=
  let P := E.P
  match o.op with
  | .move x => .pur (.leaf (typD P o.type (ρ x)))
  | .assign x => .pur (.leaf (typD P o.type (ρ x)))
  | .alloc t => .alo (match zeroC P E.cd t with | some cs => .leaf (.cells cs (tagT P 4 t)) | none => .fail) fun id => .ptr id 0
  | .box t x => .alo (match vOf (ρ x) with | some v => boxB P t (typV P t v) | none => .fail) fun id => .ptr id 0
  | .build t parts => .pur (buildT P E.cd t (parts.toList.map fun p => (p.1, ρ p.2)))
  | .buildSlice t n parts => rowK (mkF E o) (zw6 P E.cd t n (parts.toList.map fun p => (p.1, ρ p.2)))
  | .load t a => oneK (ρ a) (loadK P E.cd t)
  | .store t a x => two (ρ a) (ρ x) fun p v => .wri fun hp _ => storeF P E.cd t p (typV P t v) hp
  | .nilCheck x => match ρ x with
    | .v (.one (.ptr b o)) => .pur (one (.ptr b o))
    | .v (.one (.ap b o t i s)) => .pur (one (.ap b o t i s))
    | .v (.one (.elp b v i s)) => .lod b fun
      | .row _ v' _ => bif Nat.beq v v' then one (.elp b v i s) else .fail
      | _ => .fail
    | .v (.one (.xp t x s)) => .pur (one (.xp t x s))
    | .v (.one (.fn f a c)) => .pur (one (.fn f a c))
    | _ => .pur .fail
  | .binOp op t x y _ => two (ρ x) (ρ y) (binK P E.cd t op)
  | .unOp op _ x => oneK (ρ x) (unK op)
  | .convert src dst x => oneK (ρ x) (convK P E.cd (mkF E o) src dst)
  | .makeFunc (.func f) a c => .pur (match optL (a.toList.map fun x => cellOf (ρ x)), optL (c.toList.map fun x => cellOf (ρ x)) with
    | some a', some c' => one (.fn f a' c')
    | _, _ => .fail)
  | .makeSlice t n m => rowK (mkF E o) (match vOf (ρ n), vOf (ρ m) with | some a, some b => z10t P E.cd t a b | _, _ => .fail)
  | .slice t x lo hi none => oneK (ρ x) fun v => sliceK P t v (lo.map ρ) (hi.map ρ)
  | .fieldAddr t x f => oneK (ρ x) (z10h P t f)
  | .field t x f => oneK (ρ x) (fieldK P t f)
  | .indexAddr t x i => two (ρ x) (ρ i) (z10l P t)
  | .index t x i => two (ρ x) (ρ i) (indexK P E.cd t)
  | .lookup t x i false => two (ρ x) (ρ i) (lookK P t)
  | .extract x i => match ρ x with
    | .tup vs => (match nth vs i with | some v => .pur (.leaf (.v v)) | none => .pur .fail)
    | _ => .pur .fail
  | .call c => match c.callee with
    | .value f => (match ρ f, valsOf P (c.args.toList.map ρ) c.argTypes.toList with
      | .v (.one (.fn g a b)), some vs => callK E g (a.map .one ++ vs ++ b.map .one)
      | _, _ => .pur .fail)
    | .builtin b => (match optL (c.args.toList.map fun x => vOf (ρ x)) with
      | some vs => (match b, vs, c.argTypes.toList with
        | .len, [x], [t] => lenK P t x
        | .append, [x, y], [t, t2] => appendK P E.cd t t2 x y
        | .copy, [x, y], [t, _] => copyK P E.cd t x y
        | .min, x :: r, _ => .pur (minmax false x r)
        | .max, x :: r, _ => .pur (minmax true x r)
        | b, vs, ts => clrK P E.cd b vs ts)
      | none => .pur .fail)
    | _ => .pur .fail
  | _ => .pur .fail
where cellOf : D U → Option (C U)
  | .v (.one c) => some c
  | _ => none

/-! ### regions -/
def grade (E : Env U) (o : Oper) : Nat := match o.op with
  | .move _ | .assign _ | .pick _ _ _ | .build _ _ | .binOp _ _ _ _ _ | .unOp _ _ _ | .field _ _ _ | .index _ _ _ | .extract _ _ | .makeFunc _ _ _ | .lookup _ _ _ false => 0
  | .load _ _ | .alloc _ | .box _ _ | .buildSlice _ _ _ | .makeSlice _ _ _ | .slice _ _ _ _ _ | .indexAddr _ _ _ | .convert _ _ _ | .nilCheck _ | .fieldAddr _ _ _ => 1
  | .call c => match c.callee with
    | .value (.func f) => (match E.fns f with | some (true, _) => 1 | _ => 2)
    | .builtin .len => 1
    | .builtin .min => 0
    | .builtin .max => 0
    | _ => 2
  | _ => 2
def makes (o : Oper) : Bool := match o.op with
  | .alloc _ | .box _ _ | .buildSlice _ _ _ | .makeSlice _ _ _ => true
  | .call c => (match c.callee with | .builtin .append => true | _ => false)
  | _ => false
def countM : List Oper → Nat
  | [] => 0
  | o :: l => bif makes o then countM l + 1 else countM l
def maker : List Oper → Nat → Nat → Option Nat
  | [], _, _ => none
  | o :: l, r, i => bif makes o then (bif Nat.beq r 0 then some i else maker l (r - 1) (i + 1)) else maker l r (i + 1)
def depB (deps : Array Nat) (j i : Nat) : Bool := (deps.getD j 0).testBit i
def disjN : List Nat → List Nat → Bool
  | [], _ => true
  | x :: l, m => bif memN m x then false else disjN l m
def fpDisj : Fp → Fp → Bool
  | .rd l, .wr m n => disjN l m && ltAll n l
  | .wr m n, .rd l => disjN l m && ltAll n l
  | _, _ => false
def pairOk (E : Env U) (fps : Nat → Fp) (ops : Array Oper) (deps : Array Nat) (i : Nat) (x : Oper) (j : Nat) (y : Oper) : Bool :=
  bif depB deps j i then true else Oper.apart ops x y && (let a := grade E x; let b := grade E y; Nat.beq a 0 || Nat.beq b 0 || (Nat.beq a 1 && Nat.beq b 1) || (fpDisj (fps i) (fps j) && !makes x && !makes y))
def pairs1 (E : Env U) (fps : Nat → Fp) (ops : Array Oper) (deps : Array Nat) (i : Nat) (x : Oper) : List Oper → Nat → Bool
  | [], _ => true
  | y :: l, j => bif pairOk E fps ops deps i x j y then pairs1 E fps ops deps i x l (j + 1) else false
def zr6 (E : Env U) (fps : Nat → Fp) (ops : Array Oper) (deps : Array Nat) : List Oper → Nat → Bool
  | [], _ => true
  | x :: l, i => bif pairs1 E fps ops deps i x l (i + 1) then zr6 E fps ops deps l (i + 1) else false
def afterOk : Nat → List Oper → Bool
  | _, [] => true
  | i, o :: l => bif o.after.all (fun e => !Region.binds .any e || Nat.blt e.on i) then afterOk (i + 1) l else false
def drawOk (E : Env U) (fps : Nat → Fp) (ops : Array Oper) : Bool := afterOk 0 ops.toList && zr6 E fps ops (Region.before ops) ops.toList 0

structure Rg where
  ops : Array Oper
  deps : Array Nat
  base : Nat
  draw : Bool
  fps : Nat → Fp
def fpRd : Fp → Nat → Bool
  | .none, _ => true
  | .rd l, b => memN l b
  | .wr _ _, _ => false
def stayC : C U → Bool
  | .bool _ => true
  | .int _ _ => true
  | .str _ => true
  | .sl _ _ full => !full
  | .nilp => true
  | .mp _ => true
  | .arr _ _ _ => true
  | _ => false
def stayL : List (C U) → Bool
  | [] => true
  | c :: l => bif stayC c then stayL l else false
def stayB : Option (Blk U) → Bool
  | some (.cells cs _) => stayL cs
  | _ => false
def tchL (js : List Nat) (hp : List (Blk U)) : Nat → List Nat → List Nat
  | _, [] => []
  | j, b :: l => bif memN js j && stayB (nth hp b) then tchL js hp (j + 1) l else b :: tchL js hp (j + 1) l
def tch (P : Program) (kp : Nat → List Nat) (ρ : Operand → D U) (hp : List (Blk U)) (o : Oper) : Option (List Nat) := match o.op with
  | .store _ a _ => (match ρ a with
    | .v (.one (.ptr b _)) => some [b]
    | .v (.one (.elp b _ _ _)) => some [b]
    | .v (.one (.ap b _ _ _ _)) => some [b]
    | _ => none)
  | .call c => (match c.callee with
    | .value f => (match ρ f, valsOf P (c.args.toList.map ρ) c.argTypes.toList with
      | .v (.one (.fn g a b)), some vs => some (tchL (kp g) hp 0 (bfs hp 3 (dedup [] (refsVs (a.map .one ++ vs ++ b.map .one)))))
      | _, _ => none)
    | _ => none)
  | _ => none
def subN : List Nat → List Nat → Bool
  | [], _ => true
  | x :: l, m => bif memN m x then subN l m else false
def wOk (P : Program) (kp : Nat → List Nat) (fp : Fp) (ρ : Operand → D U) (hp : List (Blk U)) (o : Oper) : K U → Bool
  | .wri _ => (match fp with
    | .none => true
    | .rd _ => false
    | .wr m n => Nat.ble n hp.length && (match tch P kp ρ hp o with | some l => subN l m | none => false))
  | _ => true
def fitsB (E : Env U) (r : Rg) (i : Nat) (o : Oper) : K U → Bool
  | .pur _ => true
  | .alo _ _ => Nat.beq (grade E o) 1 && makes o
  | .lod b _ => Nat.beq (grade E o) 1 && (Nat.blt b r.base || (match maker r.ops.toList (b - r.base) 0 with | some j => depB r.deps i j && Nat.blt j i | none => false)) && fpRd (r.fps i) b
  | .wri _ => Nat.beq (grade E o) 2
def putD (σ : St U) (d : Option Nat) (x : D U) : St U := match d with
  | some t => { σ with tm := putA σ.tm t x }
  | none => σ
def isDead (hp : List (Blk U)) (b : Nat) : Bool := match nth hp b with
  | some .dead => true
  | _ => false
def doK (σ : St U) (o : Oper) (id : Nat) : K U → Tree (St U)
  | .pur t => t.map fun d => putD σ o.dst d
  | .alo t mk => t.map fun blk => { putD σ o.dst (.v (.one (mk id))) with hp := setN σ.hp id blk }
  | .lod b f => match nth σ.hp b with
    | some .dead => .fail
    | some blk => (f blk).map fun d => putD σ o.dst d
    | none => .fail
  | .wri f => (f σ.hp id).map fun p => { putD σ o.dst p.1 with hp := p.2 }
def doOp (E : Env U) (r : Rg) (i id : Nat) (o : Oper) (kn : List (Nat × Bool)) (σ : St U) : Tree (St U) := match o.op with
  | .pick c a b => (match (match c with | .tmp t => getA kn t | _ => none) with
    | some true => .leaf (putD σ o.dst (typD E.P o.type (ev σ.tm a)))
    | some false => .leaf (putD σ o.dst (typD E.P o.type (ev σ.tm b)))
    | none => match ev σ.tm c with
      | .v (.one (.kb true)) => .leaf (putD σ o.dst (typD E.P o.type (ev σ.tm a)))
      | .v (.one (.kb false)) => .leaf (putD σ o.dst (typD E.P o.type (ev σ.tm b)))
      | .v (.one (.bool x)) => .ite x (.leaf (putD σ o.dst (typD E.P o.type (ev σ.tm a)))) (.leaf (putD σ o.dst (typD E.P o.type (ev σ.tm b))))
      | _ => .fail)
  | _ =>
    let k := opK E (ev σ.tm) o
    bif (!r.draw || fitsB E r i o k) && (!makes o || isDead σ.hp id) && wOk E.P E.kps (r.fps i) (ev σ.tm) σ.hp o k then doK σ o id k else .fail
def knows (kn : List (Nat × Bool)) : Option Nat → Bool
  | some t => (getA kn t).isSome
  | none => false
def runOps (E : Env U) (r : Rg) : List Oper → Nat → Nat → List (Nat × Bool) → St U → Tree (St U)
  | [], _, _, _, σ => .leaf σ
  | o :: l, i, id, kn, σ =>
    let next (kn : List (Nat × Bool)) (σ : St U) : Tree (St U) := runOps E r l (i + 1) (bif makes o then id + 1 else id) kn σ
    let yes (kn : List (Nat × Bool)) : Tree (St U) := (doOp E r i id o kn σ).bind (next kn)
    let no (kn : List (Nat × Bool)) : Tree (St U) := next kn (putD σ o.dst (.v (.one .skp)))
    bif knows kn o.dst then .fail else match o.guard with
    | none => yes kn
    | some (j, want) => match (r.ops[j]?).bind (·.dst) with
      | none => no kn
      | some t => match getA kn t with
        | some b => bif b == want then yes kn else no kn
        | none => match getA σ.tm t with
          | some (.v (.one (.kb b))) => bif b == want then yes kn else no kn
          | some (.v (.one (.bool b))) => bif knows [(t, true)] o.dst then .fail else .ite b (bif want then yes ((t, true) :: kn) else no ((t, true) :: kn)) (bif want then no ((t, false) :: kn) else yes ((t, false) :: kn))
          | some (.v (.one .skp)) => no kn
          | _ => .fail
def dstsOk (n : Nat) : List Oper → Bool
  | [] => true
  | o :: l => bif (match o.dst with | some t => Nat.blt t n | none => true) then dstsOk n l else false
def region (E : Env U) (id : Nat) (ops : Array Oper) (draw : Bool) (σ : St U) : Tree (St U) :=
  let σ1 := bif E.frz id then frzS E.n0 σ else σ
  let base := σ1.hp.length
  bif dstsOk E.nt ops.toList && (!draw || (drawOk E (E.fps id) ops && E.P.follows .mixedOrders)) then
    runOps E { ops, deps := Region.before ops, base, draw, fps := E.fps id } ops.toList 0 base [] { σ1 with hp := σ1.hp ++ List.replicate (countM ops.toList) .dead }
  else .fail

/-! ### code -/
def nl : Code → Nat
  | .seq a b => nl a + nl b
  | .cond _ a b => nl a + nl b
  | .block _ c => nl c
  | .loop c => nl c + 1
  | _ => 0
def keepT : List Nat → List (Nat × D U) → List (Nat × D U)
  | _, [] => []
  | ks, (k, x) :: l => bif memN ks k then (k, x) :: keepT ks l else keepT ks l
def ownE (t : Nat) (l : List (U t)) (hp : List (Blk U)) : C U × List (Blk U) := match l with
  | [] => (.row hp.length 0, hp ++ [.row t 0 []])
  | _ => (.sl t l true, hp)
def ownC : C U → List (Blk U) → C U × List (Blk U)
  | .sl t l true, hp => ownE t l hp
  | c, hp => (c, hp)
def ownL : List (C U) → List (Blk U) → List (C U) × List (Blk U)
  | [], hp => ([], hp)
  | c :: l, hp => let r := ownC c hp; let s := ownL l r.2; (r.1 :: s.1, s.2)
def ownT : List (Nat × D U) → List (Blk U) → List (Nat × D U) × List (Blk U)
  | [], hp => ([], hp)
  | (k, .v (.one c)) :: l, hp => let r := ownC c hp; let s := ownT l r.2; ((k, .v (.one r.1)) :: s.1, s.2)
  | (k, .v (.agg cs)) :: l, hp => let r := ownL cs hp; let s := ownT l r.2; ((k, .v (.agg r.1)) :: s.1, s.2)
  | x :: l, hp => let s := ownT l hp; (x :: s.1, s.2)
def ownB : Nat → Nat → List (Blk U) → List (Blk U)
  | 0, _, hp => hp
  | n + 1, j, hp => match nth hp j with
    | some (.cells cs tg) => let r := ownL cs hp; ownB n (j + 1) (setN r.2 j (.cells r.1 tg))
    | _ => ownB n (j + 1) hp
def refsT : List (Nat × D U) → List Nat
  | [] => []
  | (_, .v x) :: l => refsV x ++ refsT l
  | _ :: l => refsT l
def renD (g : Nat → Nat → Option (Nat × Nat)) : D U → D U
  | .v x => .v (renV g x)
  | .tup vs => .tup (vs.map (renV g))
def upTo : Nat → List Nat
  | 0 => []
  | n + 1 => upTo n ++ [n]
def gcS (n : Nat) (σ : St U) (bump : Bool := false) : St U :=
  let order := bfs σ.hp 3 (dedup (upTo n) (refsT σ.tm))
  let m := bif bump then n + 1000 else n
  bif nodupB order && ltAll σ.hp.length order && Nat.blt n 1000 then
    { tm := σ.tm.map fun p => (p.1, renD (into m σ.hp order) p.2), hp := intoHp m σ.hp order 0 order }
  else σ
def onceT : List (Nat × D U) → Bool
  | [] => true
  | (k, _) :: l => bif (getA l k).isSome then false else onceT l
def canS (σ : St U) : St U := { tm := σ.tm.map fun p => (p.1, canD p.2), hp := σ.hp.map canB }
def ownS (σ : St U) : St U := bif onceT σ.tm then { tm := (ownT σ.tm σ.hp).1, hp := ownB σ.hp.length 0 (ownT σ.tm σ.hp).2 } else σ
def nrm (n : Nat) (keep : List Nat) (own : Bool) (σ : St U) (bump : Bool := false) : St U :=
  let σ1 := gcS n { σ with tm := keepT keep σ.tm } bump
  canS (bif own then gcS n (ownS σ1) else σ1)

def exec (E : Env U) : Code → Nat → St U → Tree (Ex × St U)
  | .skip, _, σ => .leaf (.norm, σ)
  | .region id ops d, _, σ => (region E id ops d (bif E.ownr id then ownS σ else σ)).map fun σ' => (.norm, σ')
  | .seq a b, i, σ => (exec E a i σ).bind fun p => match p.1 with
    | .norm => exec E b (i + nl a) p.2
    | e => .leaf (e, p.2)
  | .cond c x y, i, σ => match ev σ.tm c with
    | .v (.one (.kb true)) => exec E x i σ
    | .v (.one (.kb false)) => exec E y (i + nl x) σ
    | .v (.one (.bool b)) => .ite b (exec E x i σ) (exec E y (i + nl x) σ)
    | _ => .fail
  | .block id c, i, σ => (exec E c i σ).map fun p => match p.1 with
    | .exit id' => bif Nat.beq id' id then (.norm, p.2) else p
    | _ => p
  | .loop _, i, σ => match E.lps i with
    | some (h, spec) => (match spec (nrm E.n0 h.keep h.own σ h.bump) with
      | some r => .opt r.β r.o r.out
      | none => .fail)
    | none => .fail
  | .exit id, _, σ => .leaf (.exit id, σ)
  | .ret, _, σ => .leaf (.ret, σ)
  | _, _, _ => .fail

def round (E : Env U) (h : Hd) (c : Code) (i : Nat) (σ : St U) : Tree (St U ⊕ (Ex × St U)) :=
  (exec E c (i + 1) σ).map fun p => match p.1 with
    | .norm => .inl (nrm E.n0 h.keep h.own p.2 h.bump)
    | e => .inr (e, nrm E.n0 h.xkeep h.own p.2 h.bump)

def keepG (n b v : Nat) : Option (Nat × Nat) := bif Nat.blt b n then some (b, v) else none
def resV (P : Program) (n : Nat) (σ : St U) : List (ResultVar × Nat) → Option (List (V U))
  | [] => some []
  | (.tmp t, ty) :: l => match getA σ.tm t, resV P n σ l with
    | some (.v x), some r => some (renV (keepG n) (typV P ty x) :: r)
    | _, _ => none
  | (.cell t ty, _) :: l => match getA σ.tm t, resV P n σ l with
    | some (.v (.one (.ptr b o))), some r => (match nth σ.hp b with
      | some (.cells cs _) => (match cutC P cs o (P.cellsOf ty) with
        | some q => (match mkV P ty q with | some v => some (renV (keepG n) v :: r) | none => none)
        | none => none)
      | _ => none)
    | _, _ => none
def firstB : Nat → List (Blk U) → List (Blk U)
  | 0, _ => []
  | _, [] => []
  | n + 1, b :: r => b :: firstB n r
def outB (n : Nat) : List (Blk U) → List (Blk U)
  | [] => []
  | .cells cs tg :: r => .cells (cs.map (renC (keepG n))) tg :: outB n r
  | b :: r => b :: outB n r
def rows0 : List (Blk U) → Bool
  | [] => true
  | .row _ v _ :: r => bif Nat.beq v 0 then rows0 r else false
  | .mrow _ v _ :: r => bif Nat.beq v 0 then rows0 r else false
  | _ :: r => rows0 r
def argsT : Nat → List (V U) → List (Nat × D U)
  | _, [] => []
  | i, x :: l => (i, .v x) :: argsT (i + 1) l
def zk (E : Env U) (f : Func) (args : List (V U)) (hp : List (Blk U)) : Tree (List (V U) × List (Blk U)) :=
  bif Nat.beq hp.length E.n0 && rows0 hp && Nat.beq f.ntmps E.nt && Nat.ble args.length f.ntmps && Nat.beq f.results.size f.resultTypes.size then match f.body with
  | some c => (exec E c 0 { tm := argsT 0 args, hp }).bind fun p => match p.1 with
    | .exit _ => .fail
    | _ =>
      let σ := frzS E.n0 p.2
      match resV E.P E.n0 σ (f.results.toList.zip f.resultTypes.toList) with
      | some vs => .leaf (vs, outB E.n0 (firstB E.n0 σ.hp))
      | none => .fail
  | none => .fail
  else .fail

end
end Go.Ab
end
section
namespace Go.Ab
variable {U : Nat → Type}

inductive Inf
  | cells (k : Nat)
  | row (pos : Option Nat) (t ver len cap : Nat)
def Inf.blk : Inf → Option Nat
  | .cells k => some k
  | .row p _ _ _ _ => p
abbrev Mp := Nat → Option Inf
inductive Inf.Le : Inf → Inf → Prop
  | refl (i : Inf) : Inf.Le i i
  | later (p q : Option Nat) (t u v v' n m c d : Nat) : v < v' → Inf.Le (.row p t v n c) (.row q u v' m d)
theorem Inf.Le.trans {a b c : Inf} (h : Inf.Le a b) (k : Inf.Le b c) : Inf.Le a c := by
  cases h with
  | refl => exact k
  | later p q t u v v' n m c d hv =>
    cases k with
    | refl => exact .later _ _ _ _ _ _ _ _ _ _ hv
    | later _ _ _ _ _ _ _ _ _ _ hv' => exact .later _ _ _ _ _ _ _ _ _ _ (Nat.lt_trans hv hv')
def Ext (M M' : Mp) : Prop := ∀ b i, M b = some i → ∃ i', M' b = some i' ∧ Inf.Le i i'
theorem Ext.refl (M : Mp) : Ext M M := fun _ i h => ⟨i, h, .refl i⟩
theorem Ext.trans {M M' M'' : Mp} (h : Ext M M') (k : Ext M' M'') : Ext M M'' := fun b i hb =>
  let ⟨i', h1, h2⟩ := h b i hb
  let ⟨i'', k1, k2⟩ := k b i' h1
  ⟨i'', k1, h2.trans k2⟩

def Frz (Fz : Nat → Prop) (w : World) (Fz' : Nat → Prop) (w' : World) : Prop := ∀ k, Fz k → Fz' k ∧ w'.heap[k]? = w.heap[k]?
theorem Frz.refl (Fz : Nat → Prop) (w : World) : Frz Fz w Fz w := fun _ h => ⟨h, rfl⟩
theorem Frz.trans {F F' F'' : Nat → Prop} {w w' w'' : World} (h : Frz F w F' w') (k : Frz F' w' F'' w'') : Frz F w F'' w'' :=
  fun b hb => ⟨(k b (h b hb).1).1, (k b (h b hb).1).2.trans (h b hb).2⟩

def at0 (k o : Nat) : Addr := ⟨k, o, none⟩
theorem z181 {w w' : World} {k : Nat} (h : w'.heap[k]? = w.heap[k]?) (o : Nat) : w'.cell? (at0 k o) = w.cell? (at0 k o) := by
  simp [World.cell?, at0, h]

def RowV (pos : Option Nat) (len cap : Nat) (val : Value) : Prop := match pos with
  | some k => val = .slice (some (at0 k 0)) len cap
  | none => ∃ a, val = .slice a 0 0
def OwnV (pos : Option Nat) (sz lo n : Nat) (val : Value) : Prop := ∃ a c, val = .slice a n c ∧ n ≤ c ∧ (0 < n → ∃ k, pos = some k ∧ a = some (at0 k (lo * sz)))

inductive R1 (P : Program) (cd : Cd U) (M : Mp) (Fz : Nat → Prop) (w : World) : C U → Value → Prop
  | unk (v : Value) : R1 P cd M Fz w .unk v
  | skp : R1 P cd M Fz w .skp undef
  | kb (b : Bool) : R1 P cd M Fz w (.kb b) (.bool b)
  | bool (b : Bool) : R1 P cd M Fz w (.bool b) (.bool b)
  | int (k : IntKind) (n : Int) : R1 P cd M Fz w (.int k n) (.int k n)
  | str (s : List UInt8) : R1 P cd M Fz w (.str s) (.string ⟨s.toArray⟩)
  | nils : R1 P cd M Fz w .nils (.slice none 0 0)
  | sl (t : Nat) (l : List (U t)) (full : Bool) (a : Option Addr) (cap : Nat) (f : Nat → Value) : (full = true → cap = l.length) → l.length ≤ cap →
      (l ≠ [] → ∃ k o, a = some (at0 k o) ∧ Fz k ∧ ∀ j c, (l.flatMap (cd.enc t))[j]? = some c → w.cell? (at0 k (o + j)) = some (f j)) →
      (∀ j c, (l.flatMap (cd.enc t))[j]? = some c → R1 P cd M Fz w c (f j)) → R1 P cd M Fz w (.sl t l full) (.slice a l.length cap)
  | row (b v : Nat) (pos : Option Nat) (t ver len cap : Nat) (val : Value) : M b = some (.row pos t ver len cap) → v ≤ ver → val.oneCell' = true →
      (v = ver → RowV pos len cap val) → R1 P cd M Fz w (.row b v) val
  | own (b v lo n : Nat) (pos : Option Nat) (t ver len cap : Nat) (val : Value) : M b = some (.row pos t ver len cap) → v ≤ ver → val.oneCell' = true →
      (v = ver → lo + n ≤ len ∧ OwnV pos (P.cellsOf t) lo n val) → R1 P cd M Fz w (.own b v lo n) val
  | ptr (b o k : Nat) : M b = some (.cells k) → R1 P cd M Fz w (.ptr b o) (.pointer (some (at0 k o)))
  | elp (b v i sub : Nat) (pos : Option Nat) (t ver len cap : Nat) (val : Value) : M b = some (.row pos t ver len cap) → v ≤ ver → val.oneCell' = true →
      (v = ver → i < len ∧ ∃ k, pos = some k ∧ val = .pointer (some (at0 k (i * P.cellsOf t + sub)))) → R1 P cd M Fz w (.elp b v i sub) val
  | ap (b o t i sub k : Nat) : M b = some (.cells k) → R1 P cd M Fz w (.ap b o t i sub) (.pointer (some (at0 k (o + i * P.cellsOf t + sub))))
  | asl (b o t n k cap : Nat) : M b = some (.cells k) → n ≤ cap → R1 P cd M Fz w (.asl b o t n) (.slice (some (at0 k o)) n cap)
  | gp (g o : Nat) : R1 P cd M Fz w (.gp g o) (.pointer (some (at0 g o)))
  | xp (t : Nat) (x : U t) (sub k o : Nat) (f : Nat → Value) : Fz k → (∀ j c, (cd.enc t x)[j]? = some c → w.cell? (at0 k (o + j)) = some (f j)) →
      (∀ j c, (cd.enc t x)[j]? = some c → R1 P cd M Fz w c (f j)) → R1 P cd M Fz w (.xp t x sub) (.pointer (some (at0 k (o + sub))))
  | fn (f : Nat) (a c : List (C U)) (g h : Nat → Value) : (∀ j x, a[j]? = some x → R1 P cd M Fz w x (g j)) → (∀ j x, c[j]? = some x → R1 P cd M Fz w x (h j)) →
      R1 P cd M Fz w (.fn f a c) (.func (.func f) ((List.range a.length).map g).toArray ((List.range c.length).map h).toArray)
  | nilp : R1 P cd M Fz w .nilp (.pointer none)
  | mp (l : List Int) (r : Nat) (es : Array MapEntry) (ck : Nat) : Fz r → w.heap[r]? = some (.map es ck) → (∀ e ∈ es, ∃ n, e.key = .int .i64 n ∧ e.val = .bool true) → (∀ n, n ∈ l ↔ ∃ e ∈ es, e.key = .int .i64 n) →
      R1 P cd M Fz w (.mp l) (.map (some r))

section
variable {P : Program} {cd : Cd U} {M M' : Mp} {Fz Fz' : Nat → Prop} {w w' : World}

theorem R1.mono {c : C U} {v : Value} (h : R1 P cd M Fz w c v) (he : Ext M M') (hf : Frz Fz w Fz' w') : R1 P cd M' Fz' w' c v := by
  induction h with
  | unk v => exact .unk v
  | skp => exact .skp
  | kb b => exact .kb b
  | bool b => exact .bool b
  | int k n => exact .int k n
  | str s => exact .str s
  | nils => exact .nils
  | sl t l full a cap f h1 h0 h2 _ ih =>
    refine .sl t l full a cap f h1 h0 (fun hl => ?_) ih
    obtain ⟨k, o, ha, hk, hc⟩ := h2 hl
    exact ⟨k, o, ha, (hf k hk).1, fun j c hj => (z181 (hf k hk).2 _).trans (hc j c hj)⟩
  | row b v pos t ver len cap val h1 h2 h3 h4 =>
    obtain ⟨i', hi, hl⟩ := he b _ h1
    cases hl with
    | refl => exact .row b v pos t ver len cap val hi h2 h3 h4
    | later _ q _ u _ v' _ m _ d hv => exact .row b v q u v' m d val hi (by omega) h3 (fun e => by omega)
  | own b v lo n pos t ver len cap val h1 h2 h3 h4 =>
    obtain ⟨i', hi, hl⟩ := he b _ h1
    cases hl with
    | refl => exact .own b v lo n pos t ver len cap val hi h2 h3 h4
    | later _ q _ u _ v' _ m _ d hv => exact .own b v lo n q u v' m d val hi (by omega) h3 (fun e => by omega)
  | ptr b o k h1 =>
    obtain ⟨i', hi, hl⟩ := he b _ h1
    cases hl with
    | refl => exact .ptr b o k hi
  | elp b v i sub pos t ver len cap val h1 h2 h3 h4 =>
    obtain ⟨i', hi, hl⟩ := he b _ h1
    cases hl with
    | refl => exact .elp b v i sub pos t ver len cap val hi h2 h3 h4
    | later _ q _ u _ v' _ m _ d hv => exact .elp b v i sub q u v' m d val hi (by omega) h3 (fun e => by omega)
  | ap b o t i sub k h1 =>
    obtain ⟨i', hi, hl⟩ := he b _ h1
    cases hl with
    | refl => exact .ap b o t i sub k hi
  | gp g o => exact .gp g o
  | asl b o t n k cap h1 hc =>
    obtain ⟨i', hi, hl⟩ := he b _ h1
    cases hl with
    | refl => exact .asl b o t n k cap hi hc
  | xp t x sub k o f h1 h2 _ ih => exact .xp t x sub k o f (hf k h1).1 (fun j c hj => (z181 (hf k h1).2 _).trans (h2 j c hj)) ih
  | fn f a c g h _ _ ih1 ih2 => exact .fn f a c g h ih1 ih2
  | nilp => exact .nilp
  | mp l r es ck h1 h2 h3 h4 => exact .mp l r es ck (hf r h1).1 ((hf r h1).2.trans h2) h3 h4

theorem R1.scal {c : C U} {v : Value} (h : R1 P cd M Fz w c v) (hs : solid c = true) : v.oneCell' = true := by
  cases h <;> first | rfl | assumption | (simp [solid] at hs)


/-! ### cells side by side -/
def okA (cs : List (C U)) : Prop := ∀ t n l, C.arr t n l ∈ cs → l.length = n
def plainC : C U → Bool
  | .bool _ => true
  | .int _ _ => true
  | .str _ => true
  | .sl _ _ _ => true
  | .nilp => true
  | .mp _ => true
  | _ => false
def RL (P : Program) (cd : Cd U) (M : Mp) (Fz : Nat → Prop) (w : World) (cs : List (C U)) (vs : List Value) : Prop :=
  okA cs ∧ vs.length = (leaves cd cs).length ∧ ∀ (j : Nat) (c : C U) (v : Value), (leaves cd cs)[j]? = some c → vs[j]? = some v → R1 P cd M Fz w c v

structure CdOk (P : Program) (cd : Cd U) : Prop where
  len : ∀ t x, (cd.enc t x).length = P.cellsOf t
  plain : ∀ t x c, c ∈ cd.enc t x → plainC c = true
  dec : ∀ t cs x, cd.dec t cs = some x → ∀ M Fz w vs, RL P cd M Fz w cs vs → RL P cd M Fz w (cd.enc t x) vs
  bytes : ∀ t l s, cd.bytes t l = some s → P.cellsOf t = 1 ∧ ∃ ns : List Int, l.flatMap (cd.enc t) = ns.map (fun n => .int .u8 n) ∧ s = ns.map (fun n => UInt8.ofNat n.toNat)
  ofBytes : ∀ t s l, cd.ofBytes t s = some l → l.length = s.length ∧ l.flatMap (cd.enc t) = s.map (fun b => .int .u8 (b.toNat : Int))
  eq : ∀ t d x y, cd.deq t = some d → eqT P cd false 4 t (cd.enc t x) (cd.enc t y) = some (@decide (x = y) (d x y))

theorem leaves_cons (c : C U) (cs : List (C U)) : leaves cd (c :: cs) = leaf cd c ++ leaves cd cs := rfl
theorem zo3 (a b : List (C U)) : leaves cd (a ++ b) = leaves cd a ++ leaves cd b := by simp [leaves]
theorem zdq {c : C U} {cs : List (C U)} : okA (c :: cs) ↔ okA [c] ∧ okA cs := by
  unfold okA
  constructor
  · exact fun h => ⟨fun t n l hm => h t n l (by simp at hm; simp [hm]), fun t n l hm => h t n l (by simp [hm])⟩
  · rintro ⟨h1, h2⟩ t n l hm
    rcases List.mem_cons.1 hm with h | h
    · exact h1 t n l (by simp [h])
    · exact h2 t n l h
theorem z1id {a b : List (C U)} : okA (a ++ b) ↔ okA a ∧ okA b := by
  unfold okA
  constructor
  · exact fun h => ⟨fun t n l hm => h t n l (by simp [hm]), fun t n l hm => h t n l (by simp [hm])⟩
  · rintro ⟨h1, h2⟩ t n l hm
    rcases List.mem_append.1 hm with h | h
    · exact h1 t n l h
    · exact h2 t n l h
theorem z1p (ok : CdOk P cd) (t : Nat) (l : List (U t)) : (l.flatMap (cd.enc t)).length = l.length * P.cellsOf t := by
  induction l with
  | nil => simp
  | cons x l ih => simp [ih, ok.len, Nat.add_mul, Nat.add_comm]
theorem zgq (ok : CdOk P cd) {c : C U} (h : okA [c]) : (leaf cd c).length = szC P c := by
  cases c <;> simp [leaf, szC]
  rename_i t n l
  rw [← h t n l (by simp)]
  have := z1p ok t l
  simpa using this
theorem z1hs (ok : CdOk P cd) : ∀ {cs : List (C U)}, okA cs → (leaves cd cs).length = szL P cs
  | [], _ => rfl
  | c :: cs, h => by
    obtain ⟨h1, h2⟩ := zdq.1 h
    rw [leaves_cons, List.length_append, zgq ok h1, z1hs ok h2]
    rfl
theorem z10g (ok : CdOk P cd) : ∀ {cs r : List (C U)} {o : Nat}, okA cs → dropC P cs o = some r → leaves cd r = (leaves cd cs).drop o ∧ okA r ∧ o ≤ (leaves cd cs).length
  | [], r, o, h, e => by
    cases o with
    | zero => simp [dropC] at e; subst e; exact ⟨rfl, h, by simp⟩
    | succ o => simp only [dropC, cond_eq_ite] at e; rw [if_neg (by simp)] at e; cases e
  | c :: cs, r, o, h, e => by
    obtain ⟨h1, h2⟩ := zdq.1 h
    cases o with
    | zero => simp [dropC] at e; subst e; exact ⟨rfl, h, by simp⟩
    | succ o =>
      simp only [dropC, cond_eq_ite] at e
      rw [if_neg (by simp)] at e
      split at e
      · rename_i hle
        have hle : szC P c ≤ o + 1 := by simpa using hle
        obtain ⟨g1, g2, g3⟩ := z10g ok h2 e
        refine ⟨?_, g2, ?_⟩
        · have hl := zgq ok h1
          rw [g1, leaves_cons, List.drop_append, hl, (List.drop_of_length_le (by omega) : List.drop (o + 1) (leaf cd c) = [])]; rfl
        · rw [leaves_cons, List.length_append, zgq ok h1]; omega
      · cases e
theorem z1v4 (ok : CdOk P cd) : ∀ {cs r : List (C U)} {n : Nat}, okA cs → takeC P cs n = some r → leaves cd r = (leaves cd cs).take n ∧ okA r ∧ n ≤ (leaves cd cs).length
  | [], r, o, h, e => by
    cases o with
    | zero => simp [takeC] at e; subst e; exact ⟨by simp [leaves], h, by simp⟩
    | succ o => simp only [takeC, cond_eq_ite] at e; rw [if_neg (by simp)] at e; cases e
  | c :: cs, r, o, h, e => by
    obtain ⟨h1, h2⟩ := zdq.1 h
    cases o with
    | zero => simp [takeC] at e; subst e; exact ⟨by simp [leaves], fun t n l hm => by simp at hm, by simp⟩
    | succ o =>
      simp only [takeC, cond_eq_ite] at e
      rw [if_neg (by simp)] at e
      split at e
      · rename_i hle
        have hle : szC P c ≤ o + 1 := by simpa using hle
        split at e
        · rename_i r' he
          injection e with e
          subst e
          obtain ⟨g1, g2, g3⟩ := z1v4 ok h2 he
          refine ⟨?_, zdq.2 ⟨h1, g2⟩, ?_⟩
          · have hl := zgq ok h1
            rw [leaves_cons, g1, leaves_cons, List.take_append, hl, (List.take_of_length_le (by omega) : List.take (o + 1) (leaf cd c) = leaf cd c)]
          · rw [leaves_cons, List.length_append, zgq ok h1]; omega
        · cases e
      · cases e
theorem z1ww (ok : CdOk P cd) {cs r : List (C U)} {o n : Nat} (h : okA cs) (e : cutC P cs o n = some r) : leaves cd r = ((leaves cd cs).drop o).take n ∧ okA r ∧ o + n ≤ (leaves cd cs).length := by
  unfold cutC at e
  split at e
  · rename_i q hq
    obtain ⟨g1, g2, g3⟩ := z10g ok h hq
    obtain ⟨k1, k2, k3⟩ := z1v4 ok g2 e
    rw [g1] at k1 k3
    exact ⟨k1, k2, by simp at k3; omega⟩
  · cases e
theorem z1xj (ok : CdOk P cd) {new : List (C U)} {n : Nat} (hn : okA new) : ∀ {cs r : List (C U)} {o : Nat}, okA cs → putC P new n cs o = some r →
    leaves cd r = (leaves cd cs).take o ++ leaves cd new ++ (leaves cd cs).drop (o + n) ∧ okA r ∧ o + n ≤ (leaves cd cs).length
  | [], r, o, h, e => by
    simp only [putC, cond_eq_ite] at e
    split at e
    · rename_i ho
      split at e
      · rename_i hn0
        have ho : o = 0 := by simpa using ho
        have hn0 : n = 0 := by simpa using hn0
        subst ho; subst hn0
        injection e with e
        subst e
        exact ⟨by simp [leaves], hn, by simp⟩
      · cases e
    · cases e
  | c :: cs, r, o, h, e => by
    obtain ⟨h1, h2⟩ := zdq.1 h
    simp only [putC, cond_eq_ite] at e
    split at e
    · rename_i ho
      have ho : o = 0 := by simpa using ho
      subst ho
      split at e
      · rename_i q hq
        injection e with e
        subst e
        obtain ⟨g1, g2, g3⟩ := z10g ok h hq
        exact ⟨by rw [zo3, g1]; simp, z1id.2 ⟨hn, g2⟩, by simpa using g3⟩
      · cases e
    · split at e
      · rename_i ho hle
        have hle : szC P c ≤ o := by simpa using hle
        split at e
        · rename_i q hq
          injection e with e
          subst e
          obtain ⟨g1, g2, g3⟩ := z1xj ok hn h2 hq
          have hl := zgq ok h1
          refine ⟨?_, zdq.2 ⟨h1, g2⟩, ?_⟩
          · rw [leaves_cons, g1, leaves_cons, List.take_append, List.drop_append, hl, (List.take_of_length_le (by omega) : List.take o (leaf cd c) = leaf cd c), (List.drop_of_length_le (by omega) : List.drop (o + n) (leaf cd c) = [])]
            simp [show o + n - szC P c = o - szC P c + n by omega]
          · rw [leaves_cons, List.length_append, hl]; omega
        · cases e
      · cases e
theorem z22m (ok : CdOk P cd) {cs : List (C U)} {o : Nat} {c : C U} (h : okA cs) (e : atC P cs o = some c) : ((leaves cd cs).drop o).take (szC P c) = leaf cd c ∧ okA [c] ∧ o + szC P c ≤ (leaves cd cs).length := by
  unfold atC at e
  split at e
  · rename_i c' r hq
    injection e with e
    subst e
    obtain ⟨g1, g2, g3⟩ := z10g ok h hq
    obtain ⟨k1, _⟩ := zdq.1 g2
    have hl := zgq ok k1
    rw [← g1, leaves_cons]
    refine ⟨by rw [List.take_append_of_le_length (by omega), List.take_of_length_le (by omega)], k1, ?_⟩
    have h4 : (leaves cd (c' :: r)).length = (leaves cd cs).length - o := by rw [g1]; simp
    rw [leaves_cons, List.length_append, hl] at h4
    omega
  · cases e

theorem RL.nil : RL P cd M Fz w [] [] := ⟨fun _ _ _ h => by simp at h, rfl, fun j c v h => by simp [leaves] at h⟩
theorem RL.one {c : C U} {v : Value} (hc : ∀ t n l, c ≠ .arr t n l) (h : R1 P cd M Fz w c v) : RL P cd M Fz w [c] [v] := by
  have hl : leaves cd [c] = [c] := by cases c <;> first | rfl | exact absurd rfl (hc _ _ _)
  refine ⟨fun t n l hm => ?_, by rw [hl]; rfl, fun j c' v' h1 h2 => ?_⟩
  · simp at hm; exact absurd hm.symm (hc _ _ _)
  · rw [hl] at h1
    cases j with
    | zero => simp at h1 h2; subst h1; subst h2; exact h
    | succ j => simp at h1
theorem R1.noarr {c : C U} {v : Value} (h : R1 P cd M Fz w c v) : ∀ t n l, c ≠ .arr t n l := by
  intro t n l e; subst e; cases h
theorem RL.of1 {c : C U} {v : Value} (h : R1 P cd M Fz w c v) : RL P cd M Fz w [c] [v] := RL.one h.noarr h
theorem RL.mono {cs : List (C U)} {vs : List Value} (h : RL P cd M Fz w cs vs) (he : Ext M M') (hf : Frz Fz w Fz' w') : RL P cd M' Fz' w' cs vs :=
  ⟨h.1, h.2.1, fun j c v h1 h2 => (h.2.2 j c v h1 h2).mono he hf⟩
theorem RL.append {a b : List (C U)} {vs us : List Value} (h : RL P cd M Fz w a vs) (k : RL P cd M Fz w b us) : RL P cd M Fz w (a ++ b) (vs ++ us) := by
  refine ⟨z1id.2 ⟨h.1, k.1⟩, by rw [zo3, List.length_append, List.length_append, h.2.1, k.2.1], fun j c v h1 h2 => ?_⟩
  rw [zo3] at h1
  by_cases hj : j < (leaves cd a).length
  · rw [List.getElem?_append_left hj] at h1
    rw [List.getElem?_append_left (by rw [h.2.1]; exact hj)] at h2
    exact h.2.2 j c v h1 h2
  · rw [List.getElem?_append_right (by omega)] at h1
    rw [List.getElem?_append_right (by rw [h.2.1]; omega), h.2.1] at h2
    exact k.2.2 _ c v h1 h2
theorem RL.of_leaves {cs : List (C U)} {vs : List Value} {ls : List (C U)} {us : List Value} (h : RL P cd M Fz w cs vs) (o n : Nat) (hok : okA ls) (e : leaves cd ls = ((leaves cd cs).drop o).take n)
    (hu : us = (vs.drop o).take n) : RL P cd M Fz w ls us := by
  subst hu
  refine ⟨hok, by rw [e]; simp [h.2.1], fun j c v h1 h2 => ?_⟩
  rw [e] at h1
  rw [List.getElem?_take] at h1 h2
  split at h1
  · rename_i hj
    rw [if_pos hj] at h2
    rw [List.getElem?_drop] at h1 h2
    exact h.2.2 _ c v h1 h2
  · cases h1
theorem RL.cut (ok : CdOk P cd) {cs r : List (C U)} {vs : List Value} {o n : Nat} (h : RL P cd M Fz w cs vs) (e : cutC P cs o n = some r) : RL P cd M Fz w r ((vs.drop o).take n) ∧ o + n ≤ vs.length :=
  have hc := z1ww ok h.1 e
  ⟨h.of_leaves o n hc.2.1 hc.1 rfl, by rw [h.2.1]; exact hc.2.2⟩
theorem RL.put (ok : CdOk P cd) {cs r new : List (C U)} {vs us : List Value} {o n : Nat} (h : RL P cd M Fz w cs vs) (hn : RL P cd M Fz w new us) (hl : us.length = n) (e : putC P new n cs o = some r) :
    RL P cd M Fz w r (vs.take o ++ us ++ vs.drop (o + n)) ∧ o + n ≤ vs.length := by
  have hc := z1xj ok hn.1 h.1 e
  have hle : o + n ≤ vs.length := by rw [h.2.1]; exact hc.2.2
  refine ⟨⟨hc.2.1, ?_, ?_⟩, hle⟩
  · rw [hc.1]; simp [h.2.1, hn.2.1]
  · intro j c v h1 h2
    rw [hc.1] at h1
    have e1 : ((leaves cd cs).take o).length = o := by simp; have := hc.2.2; omega
    have e2 : (vs.take o).length = o := by simp; omega
    rw [List.append_assoc] at h1 h2
    by_cases hj : j < o
    · rw [List.getElem?_append_left (by omega)] at h1 h2
      rw [List.getElem?_take, if_pos hj] at h1 h2
      exact h.2.2 j c v h1 h2
    · rw [List.getElem?_append_right (by omega)] at h1 h2
      rw [e1] at h1; rw [e2] at h2
      by_cases hk : j - o < n
      · rw [List.getElem?_append_left (by rw [← hn.2.1]; omega)] at h1
        rw [List.getElem?_append_left (by omega)] at h2
        exact hn.2.2 _ c v h1 h2
      · rw [List.getElem?_append_right (by rw [← hn.2.1]; omega)] at h1
        rw [List.getElem?_append_right (by omega)] at h2
        rw [← hn.2.1, hl] at h1; rw [hl] at h2
        rw [List.getElem?_drop] at h1 h2
        exact h.2.2 _ c v h1 h2
theorem zpm : ∀ {cs : List (C U)}, solidL cs = true → ∀ c ∈ cs, solid c = true
  | [], _, c, h => by simp at h
  | d :: cs, e, c, h => by
    simp only [solidL, cond_eq_ite] at e
    split at e
    · rename_i hd
      rcases List.mem_cons.1 h with h | h
      · subst h; exact hd
      · exact zpm e c h
    · cases e
theorem RL.scal (ok : CdOk P cd) {cs : List (C U)} {vs : List Value} (h : RL P cd M Fz w cs vs) (hs : solidL cs = true) : ∀ v ∈ vs, v.oneCell' = true := by
  intro v hv
  obtain ⟨j, hj⟩ := List.mem_iff_getElem?.1 hv
  have hlt : j < (leaves cd cs).length := by
    rw [← h.2.1]
    exact (List.getElem?_eq_some_iff.1 hj).1
  have hc : (leaves cd cs)[j]? = some (leaves cd cs)[j] := List.getElem?_eq_getElem hlt
  refine (h.2.2 j _ v hc hj).scal ?_
  have hm : (leaves cd cs)[j] ∈ leaves cd cs := List.getElem_mem hlt
  obtain ⟨c, hc1, hc2⟩ := List.mem_flatMap.1 hm
  have hsc := zpm hs c hc1
  cases c <;> simp only [leaf, List.mem_singleton] at hc2 <;> first | (rw [hc2]; exact hsc) | skip
  obtain ⟨x, _, hx⟩ := List.mem_flatMap.1 hc2
  have := ok.plain _ x _ hx
  revert this
  generalize (leaves cd cs)[j] = q
  cases q <;> simp [plainC, solid]
end
end Go.Ab
end
section
namespace Go.Ab
variable {U : Nat → Type}

theorem z25 {α : Type} : ∀ (l : List α) (i : Nat), nth l i = l[i]?
  | [], i => by simp [nth]
  | x :: l, 0 => rfl
  | x :: l, i + 1 => by
    simp only [nth, cond_eq_ite]
    rw [if_neg (by simp), z25 l]
    simp
theorem z3g {α : Type} : ∀ (l : List α) (i : Nat) (y : α), setN l i y = l.set i y
  | [], i, y => by simp [setN]
  | x :: l, 0, y => rfl
  | x :: l, i + 1, y => by
    simp only [setN, cond_eq_ite]
    rw [if_neg (by simp), z3g l]
    simp
theorem z1om {α : Type} (l : List (Nat × α)) (i : Nat) (y : α) : getA (putA l i y) i = some y := by
  induction l with
  | nil => simp [putA, getA]
  | cons p l ih =>
    obtain ⟨k, x⟩ := p
    simp only [putA, cond_eq_ite]
    split
    · rename_i h; simp only [getA, h, cond_true]
    · split
      · simp [getA]
      · rename_i h _
        simp only [getA, cond_eq_ite, if_neg h, ih]
theorem zes {α : Type} (l : List (Nat × α)) (i j : Nat) (y : α) (hne : i ≠ j) : getA (putA l i y) j = getA l j := by
  have hb : Nat.beq i j = false := by rw [Bool.eq_false_iff]; intro h; exact hne (Nat.eq_of_beq_eq_true h)
  induction l with
  | nil => simp [putA, getA, hb]
  | cons p l ih =>
    obtain ⟨k, x⟩ := p
    simp only [putA, cond_eq_ite]
    split
    · rename_i h
      have : k = i := by simpa using h
      subst this
      simp only [getA, hb]; rfl
    · split
      · simp only [getA, hb]; rfl
      · simp only [getA, ih]

section
variable {P : Program} {cd : Cd U} {M M' : Mp} {Fz Fz' : Nat → Prop} {w w' : World}

def RV (P : Program) (cd : Cd U) (M : Mp) (Fz : Nat → Prop) (w : World) : V U → Value → Prop
  | .one c, v => R1 P cd M Fz w c v
  | .agg cs, v => ∃ a, v = .agg a ∧ RL P cd M Fz w cs a.toList
def RVs (P : Program) (cd : Cd U) (M : Mp) (Fz : Nat → Prop) (w : World) (xs : List (V U)) (vs : List Value) : Prop :=
  vs.length = xs.length ∧ ∀ (j : Nat) x v, xs[j]? = some x → vs[j]? = some v → RV P cd M Fz w x v
def RD (P : Program) (cd : Cd U) (M : Mp) (Fz : Nat → Prop) (w : World) : D U → Value → Prop
  | .v x, v => RV P cd M Fz w x v
  | .tup xs, v => ∃ a : Array Value, v = .tuple a ∧ RVs P cd M Fz w xs a.toList
def Tm (P : Program) (cd : Cd U) (M : Mp) (Fz : Nat → Prop) (w : World) (tm : List (Nat × D U)) (a : Array Value) : Prop :=
  ∀ t d, getA tm t = some d → ∃ v, a[t]? = some v ∧ RD P cd M Fz w d v

theorem RV.mono {x : V U} {v : Value} (h : RV P cd M Fz w x v) (he : Ext M M') (hf : Frz Fz w Fz' w') : RV P cd M' Fz' w' x v := by
  cases x with
  | one c => exact R1.mono h he hf
  | agg cs => obtain ⟨a, e, r⟩ := h; exact ⟨a, e, r.mono he hf⟩
theorem RVs.mono {x : List (V U)} {v : List Value} (h : RVs P cd M Fz w x v) (he : Ext M M') (hf : Frz Fz w Fz' w') : RVs P cd M' Fz' w' x v :=
  ⟨h.1, fun j x v h1 h2 => (h.2 j x v h1 h2).mono he hf⟩
theorem RD.mono {x : D U} {v : Value} (h : RD P cd M Fz w x v) (he : Ext M M') (hf : Frz Fz w Fz' w') : RD P cd M' Fz' w' x v := by
  cases x with
  | v x => exact RV.mono h he hf
  | tup xs => obtain ⟨a, e, r⟩ := h; exact ⟨a, e, r.mono he hf⟩
theorem Tm.mono {tm : List (Nat × D U)} {a : Array Value} (h : Tm P cd M Fz w tm a) (he : Ext M M') (hf : Frz Fz w Fz' w') : Tm P cd M' Fz' w' tm a :=
  fun t d hd => let ⟨v, h1, h2⟩ := h t d hd; ⟨v, h1, h2.mono he hf⟩
theorem Tm.put {tm : List (Nat × D U)} {a : Array Value} (h : Tm P cd M Fz w tm a) {t : Nat} (ht : t < a.size) {d : D U} {v : Value} (hd : RD P cd M Fz w d v) :
    Tm P cd M Fz w (putA tm t d) (a.setIfInBounds t v) := by
  intro k d' hk
  by_cases e : t = k
  · subst e
    rw [z1om] at hk
    injection hk with hk
    subst hk
    exact ⟨v, by simp [ht], hd⟩
  · rw [zes _ _ _ _ e] at hk
    obtain ⟨u, h1, h2⟩ := h k d' hk
    exact ⟨u, by rw [Array.getElem?_setIfInBounds_ne e]; exact h1, h2⟩

theorem RV.cells {x : V U} {v : Value} (h : RV P cd M Fz w x v) (hs : ∀ c, x = .one c → v.oneCell' = true) : RL P cd M Fz w x.cells v.cells.toList := by
  cases x with
  | agg cs => obtain ⟨a, rfl, r⟩ := h; exact r
  | one c =>
    have h1 := hs c rfl
    have : v.cells = #[v] := by cases v <;> first | rfl | simp [Value.oneCell'] at h1
    rw [this]
    exact RL.of1 h

/-! ### memory -/
def mk0 : Nat → Nat × Nat := fun _ => (0, 0)
def mk1 : Nat → Nat × Nat := fun n => (n, n + 1)
structure RowOk (P : Program) (cd : Cd U) (M : Mp) (Fz : Nat → Prop) (w : World) (mk : Nat → Nat × Nat) (t : Nat) (l : List (U t)) (cap k : Nat) (cur : Array Value) : Prop where
  heap : w.heap[k]? = some (.cells cur t (mk cur.size))
  le : l.length ≤ cap
  max : cap ≤ maxLen
  size : cur.size = cap * P.cellsOf t
  cells : ∀ (j : Nat) c, (l.flatMap (cd.enc t))[j]? = some c → ∃ v, cur[j]? = some v ∧ R1 P cd M Fz w c v
def RowPos (P : Program) (cd : Cd U) (M : Mp) (Fz : Nat → Prop) (w : World) (mk : Nat → Nat × Nat) (t : Nat) (l : List (U t)) (cap : Nat) : Option Nat → Prop
  | none => l = []
  | some k => ∃ cur, RowOk P cd M Fz w mk t l cap k cur
def Tag (tg : Option Nat) : Type := { e : Nat // ∀ T, tg = some T → e = T }
def RB (P : Program) (cd : Cd U) (M : Mp) (Fz : Nat → Prop) (w : World) (b : Nat) : Blk U → Prop
  | .dead => M b = none
  | .cells cs tg => ∃ k arr, ∃ e : Tag tg, M b = some (.cells k) ∧ w.heap[k]? = some (.cells arr e.1 (0, 0)) ∧ RL P cd M Fz w cs arr.toList
  | .row t ver l => ∃ pos cap, M b = some (.row pos t ver l.length cap) ∧ RowPos P cd M Fz w mk0 t l cap pos
  | .mrow t ver l => ∃ pos cap, M b = some (.row pos t ver l.length cap) ∧ RowPos P cd M Fz w mk1 t l cap pos
structure FzOk (cd : Cd U) (Fz : Nat → Prop) (w : World) : Prop where
  lt : ∀ k, Fz k → k < w.heap.size
  gl : ∀ g j y, (cd.gl g)[j]? = some y → Fz g ∧ w.cell? (at0 g j) = some y
theorem FzOk.mono {cd : Cd U} {Fz Fz' : Nat → Prop} {w w' : World} (h : FzOk cd Fz w) (hf : Frz Fz w Fz' w') (hl : ∀ k, Fz' k → k < w'.heap.size) : FzOk cd Fz' w' :=
  ⟨hl, fun g j y e => ⟨(hf g (h.gl g j y e).1).1, (z181 (hf g (h.gl g j y e).1).2 _).trans (h.gl g j y e).2⟩⟩
structure HR (P : Program) (cd : Cd U) (M : Mp) (Fz : Nat → Prop) (hp : List (Blk U)) (w : World) : Prop where
  blk : ∀ (b : Nat) x, hp[b]? = some x → RB P cd M Fz w b x
  out : ∀ b, hp.length ≤ b → M b = none
  inj : ∀ b b' i i' k, M b = some i → M b' = some i' → i.blk = some k → i'.blk = some k → b = b'
  apart : ∀ b i k, M b = some i → i.blk = some k → ¬ Fz k
  fz : FzOk cd Fz w
  lt : ∀ b i k, M b = some i → i.blk = some k → k < w.heap.size
theorem HR.frz {P : Program} {cd : Cd U} {M : Mp} {Fz : Nat → Prop} {hp : List (Blk U)} {w : World} (h : HR P cd M Fz hp w) : ∀ k, Fz k → k < w.heap.size := h.fz.lt

def upd (M : Mp) (b : Nat) (i : Option Inf) : Mp := fun x => if x = b then i else M x
theorem z1w (M : Mp) (b : Nat) (i : Option Inf) : upd M b i b = i := by simp [upd]
theorem z4j (M : Mp) {b x : Nat} (i : Option Inf) (h : x ≠ b) : upd M b i x = M x := by simp [upd, h]

theorem zym {b : Nat} {i' : Inf} (h : ∀ i, M b = some i → Inf.Le i i') : Ext M (upd M b (some i')) := by
  intro x i hx
  by_cases e : x = b
  · subst e; exact ⟨i', z1w .., h i hx⟩
  · exact ⟨i, by rw [z4j _ _ e]; exact hx, .refl i⟩

theorem HR.update {hp : List (Blk U)} (h : HR P cd M Fz hp w) (b : Nat) (x' : Blk U) (i' : Inf) (hb : b < hp.length) (hle : ∀ i, M b = some i → Inf.Le i i')
    (hsz : w.heap.size ≤ w'.heap.size) (hold : ∀ k, k < w.heap.size → (∀ i, M b = some i → i.blk ≠ some k) → w'.heap[k]? = w.heap[k]?)
    (hnew : ∀ k, i'.blk = some k → k < w'.heap.size ∧ ((∃ i, M b = some i ∧ i.blk = some k) ∨ w.heap.size ≤ k))
    (hx : RB P cd (upd M b (some i')) Fz w' b x') : HR P cd (upd M b (some i')) Fz (hp.set b x') w' ∧ Ext M (upd M b (some i')) ∧ Frz Fz w Fz w' := by
  have he : Ext M (upd M b (some i')) := zym hle
  have hf : Frz Fz w Fz w' := fun k hk => ⟨hk, hold k (h.frz k hk) fun i hi e => h.apart b i k hi e hk⟩
  refine ⟨⟨?_, ?_, ?_, ?_, ?_, ?_⟩, he, hf⟩
  · intro c y hc
    rw [List.getElem?_set, show (if b < hp.length then some x' else none) = some x' from if_pos hb] at hc
    split at hc
    · rename_i e
      subst e
      injection hc with hc
      subst hc
      exact hx
    · rename_i e
      have hm : upd M b (some i') c = M c := z4j _ _ (Ne.symm e)
      have hr := h.blk c y hc
      cases y with
      | dead => exact hm.trans hr
      | cells cs =>
        obtain ⟨k, arr, el, h1, h2, h3⟩ := hr
        refine ⟨k, arr, el, hm.trans h1, ?_, h3.mono he hf⟩
        rw [hold k (h.lt c _ k h1 rfl) fun i hi e' => e (h.inj b c i _ k hi h1 e' rfl)]
        exact h2
      | row t ver l =>
        obtain ⟨pos, cap, h1, h2⟩ := hr
        refine ⟨pos, cap, hm.trans h1, ?_⟩
        cases pos with
        | none => exact h2
        | some k =>
          obtain ⟨cur, r⟩ := h2
          refine ⟨cur, ⟨?_, r.le, r.max, r.size, fun j c' hj => ?_⟩⟩
          · rw [hold k (h.lt c _ k h1 rfl) fun i hi e' => e (h.inj b c i _ k hi h1 e' rfl)]
            exact r.heap
          · obtain ⟨v, h3, h4⟩ := r.cells j c' hj
            exact ⟨v, h3, h4.mono he hf⟩
      | mrow t ver l =>
        obtain ⟨pos, cap, h1, h2⟩ := hr
        refine ⟨pos, cap, hm.trans h1, ?_⟩
        cases pos with
        | none => exact h2
        | some k =>
          obtain ⟨cur, r⟩ := h2
          refine ⟨cur, ⟨?_, r.le, r.max, r.size, fun j c' hj => ?_⟩⟩
          · rw [hold k (h.lt c _ k h1 rfl) fun i hi e' => e (h.inj b c i _ k hi h1 e' rfl)]
            exact r.heap
          · obtain ⟨v, h3, h4⟩ := r.cells j c' hj
            exact ⟨v, h3, h4.mono he hf⟩
  · intro c hc
    simp only [List.length_set] at hc
    rw [z4j _ _ (by omega)]
    exact h.out c hc
  · intro c c' i j k h1 h2 h3 h4
    by_cases e : c = b
    · by_cases e' : c' = b
      · rw [e, e']
      · subst e
        rw [z1w] at h1
        injection h1 with h1
        subst h1
        rw [z4j _ _ e'] at h2
        rcases (hnew k h3).2 with ⟨i0, hi0, hk0⟩ | hk
        · exact h.inj _ _ _ _ k hi0 h2 hk0 h4
        · have := h.lt c' j k h2 h4; omega
    · by_cases e' : c' = b
      · subst e'
        rw [z1w] at h2
        injection h2 with h2
        subst h2
        rw [z4j _ _ e] at h1
        rcases (hnew k h4).2 with ⟨i0, hi0, hk0⟩ | hk
        · exact h.inj _ _ _ _ k h1 hi0 h3 hk0
        · have := h.lt c i k h1 h3; omega
      · rw [z4j _ _ e] at h1
        rw [z4j _ _ e'] at h2
        exact h.inj _ _ _ _ k h1 h2 h3 h4
  · intro c i k h1 h2 h3
    by_cases e : c = b
    · subst e
      rw [z1w] at h1
      injection h1 with h1
      subst h1
      rcases (hnew k h2).2 with ⟨i0, hi0, hk0⟩ | hk
      · exact h.apart _ _ k hi0 hk0 h3
      · have := h.frz k h3; omega
    · rw [z4j _ _ e] at h1
      exact h.apart c i k h1 h2 h3
  · refine h.fz.mono hf fun k hk => ?_
    have := h.frz k hk
    omega
  · intro c i k h1 h2
    by_cases e : c = b
    · subst e
      rw [z1w] at h1
      injection h1 with h1
      subst h1
      exact (hnew k h2).1
    · rw [z4j _ _ e] at h1
      have := h.lt c i k h1 h2
      omega

structure Keep (A : Nat → Prop) (w0 w : World) : Prop where
  os : w.os = w0.os
  tape : w.tape = w0.tape
  output : w.output = w0.output
  size : w0.heap.size ≤ w.heap.size
  old : ∀ k, k < w0.heap.size → ¬ A k → w.heap[k]? = w0.heap[k]?
theorem Keep.refl (A : Nat → Prop) (w : World) : Keep A w w := ⟨rfl, rfl, rfl, Nat.le_refl _, fun _ _ _ => rfl⟩
theorem Keep.trans {A B : Nat → Prop} {w0 w1 w2 : World} (h : Keep A w0 w1) (k : Keep B w1 w2) (hB : ∀ b, b < w0.heap.size → B b → A b) : Keep A w0 w2 :=
  ⟨k.os.trans h.os, k.tape.trans h.tape, k.output.trans h.output, Nat.le_trans h.size k.size,
   fun b hb hA => (k.old b (Nat.lt_of_lt_of_le hb h.size) fun hb' => hA (hB b hb hb')).trans (h.old b hb hA)⟩
def Held (M : Mp) (k : Nat) : Prop := ∃ b i, M b = some i ∧ i.blk = some k

structure RS (P : Program) (cd : Cd U) (nt : Nat) (A F0 : Nat → Prop) (w0 : World) (I0 : Mp) (σ : St U) (a : Act) (w : World) (M : Mp) (Fz : Nat → Prop) : Prop where
  hr : HR P cd M Fz σ.hp w
  tm : Tm P cd M Fz w σ.tm a.tmps
  size : a.tmps.size = nt
  defers : a.defers = []
  keep : Keep A w0 w
  own : ∀ k, Held M k → A k ∨ w0.heap.size ≤ k
  f0 : ∀ k, F0 k → Fz k
  f1 : ∀ k, Fz k → F0 k ∨ A k ∨ w0.heap.size ≤ k
  ext : Ext I0 M
def RSt (P : Program) (cd : Cd U) (nt : Nat) (A F0 : Nat → Prop) (w0 : World) (I0 : Mp) (σ : St U) (a : Act) (w : World) : Prop := ∃ M Fz, RS P cd nt A F0 w0 I0 σ a w M Fz

end
end Go.Ab
end
section
set_option linter.unusedSimpArgs false
namespace Go.Ab
variable {U : Nat → Type}
section
variable {P : Program} {cd : Cd U} {M M' : Mp} {Fz Fz' : Nat → Prop} {w w' : World}

/-! ### trees -/
theorem Tree.run_map {α β : Type} (f : α → β) : ∀ t : Tree α, (t.map f).run = t.run.map f
  | .leaf a => rfl
  | .fail => rfl
  | .ite b t e => by simp only [Tree.map, Tree.run]; split <;> exact Tree.run_map f _
  | .opt γ o g => by
    simp only [Tree.map, Tree.run]
    cases o with
    | none => rfl
    | some x => exact Tree.run_map f (g x)
theorem Tree.run_bind {α β : Type} (f : α → Tree β) : ∀ t : Tree α, (t.bind f).run = t.run.bind fun a => (f a).run
  | .leaf a => rfl
  | .fail => rfl
  | .ite b t e => by simp only [Tree.bind, Tree.run]; split <;> exact Tree.run_bind f _
  | .opt γ o g => by
    simp only [Tree.bind, Tree.run]
    cases o with
    | none => rfl
    | some x => exact Tree.run_bind f (g x)

/-! ### types -/
theorem info_of_underlying {t : Nat} {d : TypeDesc} (h : P.underlying t = some d) : ∃ i, P.info? t = some i := by
  unfold Program.underlying at h
  cases hi : P.info? t with
  | none => simp [hi] at h
  | some i => exact ⟨i, rfl⟩
theorem z82 {t : Nat} {d : TypeDesc} (h : P.underlying t = some d) (w : World) : (sizeOf t).run P w = .ok (P.cellsOf t) w := by
  obtain ⟨i, hi⟩ := info_of_underlying h
  simp [sizeOf, typeInfo, hi, Result.andThen, Program.cellsOf]
theorem zf1 {t : Nat} {d : TypeDesc} (h : P.underlying t = some d) (w : World) : (isAgg t).run P w = .ok (isAggB P t) w := by
  simp only [isAgg, Sem.run_bind, run_underlying h, Result.andThen, isAggB, h]
  cases d <;> rfl

theorem add0 (k o j : Nat) : (at0 k o).add j = at0 k (o + j) := by
  unfold Addr.add at0
  split <;> simp_all

theorem zha {k o : Nat} {arr : Array Value} {e : Nat} {fr : Nat × Nat} (h : w.heap[k]? = some (.cells arr e fr)) : w.cell? (at0 k o) = arr[o]? := by
  simp [World.cell?, at0, h]
theorem z1y4 {k o n : Nat} (vs : List Value) (hl : vs.length = n) (h : ∀ (j : Nat) v, vs[j]? = some v → w.cell? (at0 k (o + j)) = some v) :
    (loadCells (at0 k o) n).run P w = .ok vs.toArray w := by
  subst hl
  exact run_loadCells_list w (at0 k o) vs fun j v hj => by rw [add0]; exact h j v hj
theorem z1tb {t : Nat} {cs : List (C U)} {v : V U} (h : mkV P t cs = some v) : ∃ d, P.underlying t = some d ∧ ((isAggB P t = true ∧ v = .agg cs) ∨ (isAggB P t = false ∧ ∃ c, cs = [c] ∧ v = .one c ∧ ∀ a b l, c ≠ .arr a b l)) := by
  unfold mkV at h
  split at h
  · cases h
  · rename_i d hd
    refine ⟨d, hd, ?_⟩
    rw [cond_eq_ite] at h
    split at h
    · rename_i ha
      injection h with h
      exact .inl ⟨ha, h.symm⟩
    · rename_i ha
      refine .inr ⟨by simpa using ha, ?_⟩
      split at h
      · cases h
      · rename_i c hc
        injection h with h
        exact ⟨c, rfl, h.symm, fun a b l e => hc a b l e⟩
      · cases h
theorem RL.single {c : C U} {vs : List Value} (h : RL P cd M Fz w [c] vs) (hc : ∀ a b l, c ≠ .arr a b l) : ∃ v, vs = [v] ∧ R1 P cd M Fz w c v := by
  have hl : leaves cd [c] = [c] := by cases c <;> first | rfl | exact absurd rfl (hc _ _ _)
  have h2 := h.2.1
  rw [hl] at h2
  match vs, h2 with
  | [v], _ => exact ⟨v, rfl, h.2.2 0 c v (by rw [hl]; rfl) rfl⟩
theorem zr0 {t k o : Nat} {cs : List (C U)} {v : V U} {vs : List Value} (hm : mkV P t cs = some v) (hn : vs.length = P.cellsOf t) (hr : RL P cd M Fz w cs vs)
    (h : ∀ (j : Nat) x, vs[j]? = some x → w.cell? (at0 k (o + j)) = some x) : ∃ x, (loadVar t (at0 k o)).run P w = .ok x w ∧ RV P cd M Fz w v x := by
  obtain ⟨d, hd, ⟨ha, rfl⟩ | ⟨ha, c, rfl, rfl, hc⟩⟩ := z1tb hm
  · refine ⟨.agg vs.toArray, ?_, vs.toArray, rfl, by simpa using hr⟩
    simp only [loadVar, Sem.run_bind, zf1 hd, Result.andThen, ha, if_true, z82 hd, z1y4 vs hn h]
    rfl
  · obtain ⟨x, rfl, hx⟩ := RL.single hr hc
    refine ⟨x, ?_, hx⟩
    have hcell := h 0 x rfl
    rw [Nat.add_zero] at hcell
    simp only [loadVar, Sem.run_bind, zf1 hd, Result.andThen, ha, run_load]
    simp [hcell]
theorem z22d (ok : CdOk P cd) {t o : Nat} {cs r : List (C U)} {v : V U} {a : Array Value} (hr : RL P cd M Fz w cs a.toList) (hc : cutC P cs o (P.cellsOf t) = some r) (hm : mkV P t r = some v) :
    ∃ x, (part t a o).run P w = .ok x w ∧ RV P cd M Fz w v x := by
  obtain ⟨h1, h2⟩ := hr.cut ok hc
  have hl : ((a.toList.drop o).take (P.cellsOf t)).length = P.cellsOf t := by simp; simp at h2; omega
  obtain ⟨d, hd, ⟨ha, rfl⟩ | ⟨ha, c, rfl, rfl, hk⟩⟩ := z1tb hm
  · refine ⟨.agg (a.extract o (o + P.cellsOf t)), ?_, _, rfl, ?_⟩
    · simp only [part, Sem.run_bind, zf1 hd, Result.andThen, ha, if_true, z82 hd]
      rfl
    · have : (a.extract o (o + P.cellsOf t)).toList = (a.toList.drop o).take (P.cellsOf t) := by simp [Array.toList_extract, List.extract_eq_take_drop]
      rw [this]
      exact h1
  · obtain ⟨x, hx, hx'⟩ := RL.single h1 hk
    refine ⟨x, ?_, hx'⟩
    have hcell : a[o]? = some x := by
      have : ((a.toList.drop o).take (P.cellsOf t))[0]? = some x := by rw [hx]; rfl
      rw [List.getElem?_take] at this
      split at this
      · simpa using this
      · cases this
    simp only [part, Sem.run_bind, zf1 hd, Result.andThen, ha]
    simp [hcell]
end
end Go.Ab
end
section
set_option linter.unusedSimpArgs false
namespace Go.Ab
variable {U : Nat → Type}
section
variable {P : Program} {cd : Cd U} {M M' : Mp} {Fz Fz' : Nat → Prop} {w w' : World}

def PurOk (P : Program) (cd : Cd U) (M : Mp) (Fz : Nat → Prop) (w : World) (x : Sem Value) (t : Tree (D U)) : Prop :=
  ∀ d, t.run = some d → ∃ v, x.run P w = .ok v w ∧ RD P cd M Fz w d v
theorem PurOk.one {x : Sem Value} {c : C U} {v : Value} (h : x.run P w = .ok v w) (hr : R1 P cd M Fz w c v) : PurOk P cd M Fz w x (one c) := by
  intro d hd
  simp only [Ab.one, Tree.run, Option.some.injEq] at hd
  subst hd
  exact ⟨v, h, hr⟩
theorem PurOk.fail {x : Sem Value} : PurOk P cd M Fz w x .fail := by intro d hd; cases hd
theorem PurOk.ite {x : Sem Value} {b : Bool} {t e : Tree (D U)} (h1 : b = true → PurOk P cd M Fz w x t) (h2 : b = false → PurOk P cd M Fz w x e) : PurOk P cd M Fz w x (.ite b t e) := by
  intro d hd
  simp only [Tree.run] at hd
  split at hd
  · rename_i h; exact h1 h d hd
  · rename_i h; exact h2 (by simpa using h) d hd
theorem PurOk.opt {x : Sem Value} {β : Type} {o : Option β} {f : β → Tree (D U)} (h : ∀ y, o = some y → PurOk P cd M Fz w x (f y)) : PurOk P cd M Fz w x (.opt β o f) := by
  intro d hd
  simp only [Tree.run] at hd
  cases o with
  | none => cases hd
  | some y => exact h y rfl d hd
theorem PurOk.leaf {x : Sem Value} {d : D U} {v : Value} (h : x.run P w = .ok v w) (hr : RD P cd M Fz w d v) : PurOk P cd M Fz w x (.leaf d) := by
  intro d' hd
  simp only [Tree.run, Option.some.injEq] at hd
  subst hd
  exact ⟨v, h, hr⟩

theorem R1.int_inv {k : IntKind} {n : Int} {v : Value} (h : R1 P cd M Fz w (.int k n) v) : v = .int k n := by cases h; rfl
theorem R1.str_inv {s : List UInt8} {v : Value} (h : R1 P cd M Fz w (.str s) v) : v = .string ⟨s.toArray⟩ := by cases h; rfl
theorem R1.asB_inv {c : C U} {b : Bool} {v : Value} (h : R1 P cd M Fz w c v) (hb : asB c = some b) : v = .bool b := by
  cases h <;> simp [asB] at hb <;> subst hb <;> rfl
theorem zfm (op : BinOp) (t : Nat) (x y : Operand) (a b : Value) (ha : a.oneCell' = true) (hn : a ≠ .nilIface) : (eqGuard op t x y a b).run P w = .ok () w := by
  cases a <;> first
    | (simp [Value.oneCell'] at ha; done)
    | exact absurd rfl hn
    | (cases op <;> simp [eqGuard])

theorem z1dt (a b : List UInt8) : ((⟨a.toArray⟩ : ByteArray).toList == (⟨b.toArray⟩ : ByteArray).toList) = decide (a = b) := by
  rw [ByteArray.toList_eq, ByteArray.toList_eq]
  simp only []
  rw [Bool.eq_iff_iff]
  simp

theorem z21t (op : BinOp) (t : Nat) (ox oy : Operand) (k k' : IntKind) (a b : Int) (tr : Tree (D U)) (h : binK P cd t op (.one (.int k a)) (.one (.int k' b)) = .pur tr) :
    PurOk P cd M Fz w (do eqGuard op t ox oy (.int k a) (.int k' b); binOp op t (.int k a) (.int k' b)) tr := by
  have hg := zfm (P := P) (w := w) op t ox oy (.int k a) (.int k' b) rfl (by simp)
  have sh : ∀ x, (binOp op t (.int k a) (.int k' b)).run P w = x → (do eqGuard op t ox oy (.int k a) (.int k' b); binOp op t (.int k a) (.int k' b) : Sem Value).run P w = x := by
    intro x hx
    simp only [Sem.run_bind, hg, Result.andThen, hx]
  by_cases hs : op = .shl ∨ op = .shr
  · rcases hs with rfl | rfl
    · simp only [binK, K.pur.injEq] at h
      subst h
      refine .ite (fun hb => .one (sh _ ?_) (.int _ _)) (fun _ => .fail)
      have hb : ¬ b < 0 := by have := of_decide_eq_true hb; omega
      simp [binOp, Op.shift, hb]
    · simp only [binK, K.pur.injEq] at h
      subst h
      refine .ite (fun hb => .one (sh _ ?_) (.int _ _)) (fun _ => .fail)
      have hb : ¬ b < 0 := by have := of_decide_eq_true hb; omega
      simp [binOp, Op.shift, hb]
  · have h1 : op ≠ .shl := fun e => hs (.inl e)
    have h2 : op ≠ .shr := fun e => hs (.inr e)
    cases op <;> first | exact absurd rfl h1 | exact absurd rfl h2 | skip
    all_goals
      simp only [binK, cond_eq_ite, decide_eq_true_eq] at h
      split at h
      case isFalse => injection h with h; subst h; exact .fail
      case isTrue hk =>
        subst hk
        injection h with h
        subst h
        first
          | (refine .one (sh _ ?_) (.int _ _); simp [binOp, Op.intArith]; done)
          | (refine .one (sh _ ?_) (.int _ _); simp only [binOp, ne_eq, not_true_eq_false, if_false]; rfl)
          | (refine .ite (fun _ => .fail) (fun hb => .one (sh _ ?_) (.int _ _)); have hb := of_decide_eq_false hb; simp [binOp, Op.intDiv, hb]; done)
          | (refine .one (sh _ ?_) (.bool _); simp only [binOp, Op.intCmp, ne_eq, not_true_eq_false, if_false]; first | rfl | (congr 3; rw [Bool.eq_iff_iff]; simp))
theorem z21u (op : BinOp) (t : Nat) (ox oy : Operand) (a b : List UInt8) (tr : Tree (D U)) (h : binK P cd t op (.one (.str a)) (.one (.str b)) = .pur tr) :
    PurOk P cd M Fz w (do eqGuard op t ox oy (.string ⟨a.toArray⟩) (.string ⟨b.toArray⟩); binOp op t (.string ⟨a.toArray⟩) (.string ⟨b.toArray⟩)) tr := by
  have hg := zfm (P := P) (w := w) op t ox oy (.string ⟨a.toArray⟩) (.string ⟨b.toArray⟩) rfl (by simp)
  have sh : ∀ x, (binOp op t (.string ⟨a.toArray⟩) (.string ⟨b.toArray⟩)).run P w = x → (do eqGuard op t ox oy (.string ⟨a.toArray⟩) (.string ⟨b.toArray⟩); binOp op t (.string ⟨a.toArray⟩) (.string ⟨b.toArray⟩) : Sem Value).run P w = x := by
    intro x hx
    simp only [Sem.run_bind, hg, Result.andThen, hx]
  cases op <;> simp only [binK, K.pur.injEq] at h <;> subst h <;> first | exact .fail | skip
  · refine .ite (fun hb => .one (sh _ ?_) (.str _)) (fun _ => .fail)
    have hb := of_decide_eq_true hb
    have e : IntKind.i64.max = 9223372036854775807 := by decide
    have : ¬ (((⟨a.toArray⟩ : ByteArray).size + (⟨b.toArray⟩ : ByteArray).size : Nat) : Int) > IntKind.i64.max := by
      rw [e]
      have h1 : (⟨a.toArray⟩ : ByteArray).size = a.length := by simp [ByteArray.size]
      have h2 : (⟨b.toArray⟩ : ByteArray).size = b.length := by simp [ByteArray.size]
      omega
    simp only [binOp, Op.stringOp, if_neg this]
    have e2 : (⟨a.toArray⟩ : ByteArray) ++ ⟨b.toArray⟩ = ⟨(a ++ b).toArray⟩ := by
      apply ByteArray.ext
      simp
    rw [e2]
    rfl
  · refine .one (sh _ ?_) (.bool _)
    simp only [binOp, Op.stringOp, z1dt]
    rfl
  · refine .one (sh _ ?_) (.bool _)
    simp only [binOp, Op.stringOp, z1dt]
    rfl
end
end Go.Ab
end
section
set_option linter.unusedSimpArgs false
namespace Go.Ab
variable {U : Nat → Type}
section
variable {P : Program} {cd : Cd U} {M M' : Mp} {Fz Fz' : Nat → Prop} {w w' : World}

theorem RL.bool_inv {c : C U} {b : Bool} {vs : List Value} (h : RL P cd M Fz w [c] vs) (hb : asB c = some b) : vs = [.bool b] := by
  have hn : ∀ t n l, c ≠ .arr t n l := by intro t n l e; subst e; simp [asB] at hb
  obtain ⟨v, rfl, hv⟩ := h.single hn
  rw [hv.asB_inv hb]
theorem RL.int_inv {k : IntKind} {n : Int} {vs : List Value} (h : RL P cd M Fz w [.int k n] vs) : vs = [.int k n] := by
  obtain ⟨v, rfl, hv⟩ := h.single (by intro _ _ _ e; cases e)
  rw [hv.int_inv]
theorem RL.str_inv {s : List UInt8} {vs : List Value} (h : RL P cd M Fz w [.str s] vs) : vs = [.string ⟨s.toArray⟩] := by
  obtain ⟨v, rfl, hv⟩ := h.single (by intro _ _ _ e; cases e)
  rw [hv.str_inv]
theorem arr1 {vs : Array Value} {v : Value} (h : vs.toList = [v]) : vs = #[v] := by
  cases vs; simp at h; subst h; rfl

def partV (P : Program) (t o : Nat) (vs : Array Value) : Value := if isAggB P t then .agg (vs.extract o (o + P.cellsOf t)) else vs.getD o undef
theorem z10x {t o : Nat} {d : TypeDesc} {vs : Array Value} (h : P.underlying t = some d) (ho : isAggB P t = false → o < vs.size) : (part t vs o).run P w = .ok (partV P t o vs) w := by
  unfold partV
  by_cases ha : isAggB P t = true
  · simp only [part, Sem.run_bind, zf1 h, Result.andThen, ha, if_true, z82 h]
    rfl
  · have ha' : isAggB P t = false := by simpa using ha
    have := ho ha'
    simp only [part, Sem.run_bind, zf1 h, Result.andThen, ha']
    simp [this]
def EqAt (P : Program) (w : World) (d t : Nat) (vs us : Array Value) (b : Bool) : Prop :=
  (isAggB P t = true → (Op.equalIn d t (.agg vs) (.agg us)).run P w = .ok b w) ∧ (isAggB P t = false → ∃ v u, vs = #[v] ∧ us = #[u] ∧ (Op.equalIn d t v u).run P w = .ok b w)
theorem EqAt.part {d t o : Nat} {td : TypeDesc} {vs us : Array Value} {b : Bool} (ht : P.underlying t = some td) (h : EqAt P w d t (vs.extract o (o + P.cellsOf t)) (us.extract o (o + P.cellsOf t)) b)
    (hv : o + P.cellsOf t ≤ vs.size) (hu : o + P.cellsOf t ≤ us.size) :
    (part t vs o).run P w = .ok (partV P t o vs) w ∧ (part t us o).run P w = .ok (partV P t o us) w ∧ (Op.equalIn d t (partV P t o vs) (partV P t o us)).run P w = .ok b w := by
  by_cases ha : isAggB P t = true
  · refine ⟨z10x ht (fun e => by rw [ha] at e; cases e), z10x ht (fun e => by rw [ha] at e; cases e), ?_⟩
    simp only [partV, ha, if_true]
    exact h.1 ha
  · have ha' : isAggB P t = false := by simpa using ha
    obtain ⟨v, u, e1, e2, he⟩ := h.2 ha'
    have s1 : (vs.extract o (o + P.cellsOf t)).size = 1 := by rw [e1]; rfl
    have s2 : P.cellsOf t = 1 := by simp at s1; omega
    have g1 : vs[o]? = some v := by
      have : (vs.extract o (o + P.cellsOf t))[0]? = some v := by rw [e1]; rfl
      rw [Array.getElem?_extract] at this
      split at this
      · simpa using this
      · cases this
    have g2 : us[o]? = some u := by
      have : (us.extract o (o + P.cellsOf t))[0]? = some u := by rw [e2]; rfl
      rw [Array.getElem?_extract] at this
      split at this
      · simpa using this
      · cases this
    refine ⟨z10x ht (fun _ => by omega), z10x ht (fun _ => by omega), ?_⟩
    simp only [partV, ha', Bool.false_eq_true, if_false, Array.getD_eq_getD_getElem?, g1, g2, Option.getD_some]
    exact he

theorem extract_toList (vs : Array Value) (o n : Nat) : (vs.extract o (o + n)).toList = (vs.toList.drop o).take n := by
  simp [Array.toList_extract, List.extract_eq_take_drop]

theorem z184 (ok : CdOk P cd) {d : Nat} {g : Nat → List (C U) → List (C U) → Option Bool}
    (hg : ∀ t xs ys b (vs us : Array Value), g t xs ys = some b → RL P cd M Fz w xs vs.toList → RL P cd M Fz w ys us.toList → (∃ td, P.underlying t = some td) ∧ EqAt P w d t vs us b) {xs ys : List (C U)} {vs us : Array Value}
    (hx : RL P cd M Fz w xs vs.toList) (hy : RL P cd M Fz w ys us.toList) : ∀ (fs : List Field) (b : Bool), eqT.fields P g fs xs ys = some b → (Op.eqFields d vs us fs).run P w = .ok b w
  | [], b, h => by
    simp only [eqT.fields, Option.some.injEq] at h
    subst h
    simp [Op.eqFields]
  | [f], b, h => by
    simp only [eqT.fields, cond_eq_ite] at h
    split at h
    · cases h
    · rename_i hn
      have hn' : f.name ≠ "_" := by simpa using hn
      split at h
      · rename_i a c ha hc
        have r1 := hx.cut ok ha
        have r2 := hy.cut ok hc
        rw [← extract_toList] at r1 r2
        obtain ⟨⟨td, htd⟩, he⟩ := hg _ _ _ _ _ _ h r1.1 r2.1
        obtain ⟨k1, k2, k3⟩ := he.part htd (by simpa using r1.2) (by simpa using r2.2)
        simp only [Op.eqFields, if_pos hn', Sem.run_bind, k1, k2, k3, Result.andThen_ok]
        cases b <;> simp
      · cases h
  | f :: f2 :: fs, b, h => by
    simp only [eqT.fields, cond_eq_ite] at h
    split at h
    · cases h
    · rename_i hn
      have hn' : f.name ≠ "_" := by simpa using hn
      split at h
      · rename_i a c ha hc
        split at h
        · rename_i x y h1 h2
          injection h with h
          have r1 := hx.cut ok ha
          have r2 := hy.cut ok hc
          rw [← extract_toList] at r1 r2
          obtain ⟨⟨td, htd⟩, he⟩ := hg _ _ _ _ _ _ h1 r1.1 r2.1
          obtain ⟨k1, k2, k3⟩ := he.part htd (by simpa using r1.2) (by simpa using r2.2)
          have ih := z184 ok hg hx hy (f2 :: fs) y h2
          rw [Op.eqFields]
          simp only [if_pos hn', Sem.run_bind, k1, k2, k3, Result.andThen_ok]
          subst h
          cases x
          · simp
          · simpa using ih
        · cases h
      · cases h

theorem z1du (ok : CdOk P cd) : ∀ (f d t : Nat) (xs ys : List (C U)) (b : Bool) (vs us : Array Value), f ≤ d → eqT P cd false f t xs ys = some b → RL P cd M Fz w xs vs.toList → RL P cd M Fz w ys us.toList →
    (∃ td, P.underlying t = some td) ∧ EqAt P w d t vs us b
  | 0, _, _, _, _, _, _, _, _, h, _, _ => by simp [eqT] at h
  | f + 1, d, t, xs, ys, b, vs, us, hd, h, hx, hy => by
    obtain ⟨d, rfl⟩ : ∃ e, d = e + 1 := ⟨d - 1, by omega⟩
    simp only [eqT] at h
    split at h
    · rename_i hu
      have hna : isAggB P t = false := by simp [isAggB, hu]
      refine ⟨⟨_, hu⟩, And.intro (fun e => by rw [hna] at e; cases e) (fun _ => ?_)⟩
      split at h
      · split at h
        · rename_i a c x y ha hc
          injection h with h
          exact ⟨.bool x, .bool y, arr1 (hx.bool_inv ha), arr1 (hy.bool_inv hc), by rw [run_equalIn_bool' w d t x y hu, h]⟩
        · cases h
      · cases h
    · rename_i k hu
      have hna : isAggB P t = false := by simp [isAggB, hu]
      refine ⟨⟨_, hu⟩, And.intro (fun e => by rw [hna] at e; cases e) (fun _ => ?_)⟩
      split at h
      · rename_i k1 a k2 c
        rw [cond_eq_ite] at h
        split at h
        · rename_i hk
          have hk : k1 = k2 := by simpa using hk
          subst hk
          injection h with h
          refine ⟨.int k1 a, .int k1 c, arr1 hx.int_inv, arr1 hy.int_inv, ?_⟩
          rw [run_equalIn_int w d t k1 k a c hu, ← h]
          congr 1
        · cases h
      · cases h
    · rename_i hu
      have hna : isAggB P t = false := by simp [isAggB, hu]
      refine ⟨⟨_, hu⟩, And.intro (fun e => by rw [hna] at e; cases e) (fun _ => ?_)⟩
      split at h
      · injection h with h
        refine ⟨_, _, arr1 hx.str_inv, arr1 hy.str_inv, ?_⟩
        rw [run_equalIn_string w d t _ _ hu, z1dt, h]
      · cases h
    · rename_i fs hu
      have hag : isAggB P t = true := by simp [isAggB, hu]
      refine ⟨⟨_, hu⟩, And.intro (fun _ => ?_) (fun e => by rw [hag] at e; cases e)⟩
      rw [cond_eq_ite] at h
      split at h
      · cases h
      · rename_i hs
        have hf : P.fieldsOf t = fs := by simp [Program.fieldsOf, hu]
        rw [run_equalIn_struct w d t vs us (by rw [hf]; exact hu) (by simpa using hs), hf]
        exact z184 ok (fun t xs ys b vs us h1 h2 h3 => z1du ok f d t xs ys b vs us (by omega) h1 h2 h3) hx hy _ _ h
    · exfalso
      split at h
      · split at h
        · split at h
          · simp at h
          · cases h
        · cases h
      · cases h
    · cases h

/-! ### arrays -/
def eqElems (d e sz : Nat) (xs ys : Array Value) : List Nat → Sem Bool
  | [] => pure true
  | i :: l => do
    let a ← part e xs (i * sz)
    let b ← part e ys (i * sz)
    let r ← Op.equalIn d e a b
    if (!r) = true then pure false else eqElems d e sz xs ys l
theorem run_equalIn_array (d t n e : Nat) (td : TypeDesc) (xs ys : Array Value) (ht : P.underlying t = some (.array n e)) (he : P.underlying e = some td) :
    (Op.equalIn (d + 1) t (.agg xs) (.agg ys)).run P w = (eqElems d e (P.cellsOf e) xs ys (List.range n)).run P w := by
  simp only [Op.equalIn, Sem.run_bind, run_underlying ht, Result.andThen_ok, z82 he]
  rw [Std.Legacy.Range.forIn_eq_forIn_range']
  simp only [Std.Legacy.Range.size, Nat.sub_zero, Nat.add_sub_cancel, Nat.div_one]
  rw [← List.range_eq_range']
  generalize List.range n = l
  clear ht he
  induction l generalizing w with
  | nil => simp [eqElems]
  | cons i l ih =>
    simp only [List.forIn_cons, eqElems, Sem.run_bind]
    generalize (part e xs (i * P.cellsOf e)).run P w = r1
    cases r1 with
    | ok a w1 =>
      simp only [Result.andThen_ok]
      generalize (part e ys (i * P.cellsOf e)).run P w1 = r2
      cases r2 with
      | ok b w2 =>
        simp only [Result.andThen_ok]
        generalize (Op.equalIn d e a b).run P w2 = r3
        cases r3 with
        | ok r w3 =>
          cases r
          · simp only [Result.andThen_ok, Bool.not_false, if_true, Sem.run_pure]
          · simp only [Result.andThen_ok, Bool.not_true, Bool.false_eq_true, if_false, Sem.run_pure]
            exact ih
        | halt x w3 => simp [Result.andThen]
      | halt x w2 => simp [Result.andThen]
    | halt x w1 => simp [Result.andThen]
theorem z1rb {d e sz : Nat} {xs ys : Array Value} (f : Nat → Bool) : ∀ (l : List Nat), (∀ i ∈ l, ∃ a b, (part e xs (i * sz)).run P w = .ok a w ∧ (part e ys (i * sz)).run P w = .ok b w ∧ (Op.equalIn d e a b).run P w = .ok (f i) w) →
    (eqElems d e sz xs ys l).run P w = .ok (l.all f) w
  | [], _ => by simp [eqElems]
  | i :: l, h => by
    obtain ⟨a, b, h1, h2, h3⟩ := h i (by simp)
    have ih := z1rb f l fun j hj => h j (by simp [hj])
    simp only [eqElems, Sem.run_bind, h1, h2, h3, Result.andThen_ok]
    cases hf : f i
    · simp [hf]
    · simpa [hf] using ih

theorem z1mf {α : Type} (m : Nat) : ∀ (n : Nat) (a b : List α), a.length = n * m → b.length = n * m → ((∀ i, i < n → (a.drop (i * m)).take m = (b.drop (i * m)).take m) ↔ a = b)
  | 0, a, b, ha, hb => by
    have : a = [] := List.length_eq_zero_iff.1 (by simpa using ha)
    have : b = [] := List.length_eq_zero_iff.1 (by simpa using hb)
    simp_all
  | n + 1, a, b, ha, hb => by
    constructor
    · intro h
      rw [Nat.add_mul, Nat.one_mul] at ha hb
      have h0 := h 0 (by omega)
      simp only [Nat.zero_mul, List.drop_zero] at h0
      have ih := (z1mf m n (a.drop m) (b.drop m) (by simp; omega) (by simp; omega)).1 (fun i hi => by
        have := h (i + 1) (by omega)
        rw [Nat.add_mul, Nat.one_mul, Nat.add_comm] at this
        simpa [List.drop_drop] using this)
      rw [← List.take_append_drop m a, ← List.take_append_drop m b, h0, ih]
    · rintro rfl _ _
      rfl
theorem zdm (ok : CdOk P cd) (te : Nat) : ∀ (l : List (U te)) (k : Nat), (l.drop k).flatMap (cd.enc te) = (l.flatMap (cd.enc te)).drop (k * P.cellsOf te)
  | [], k => by simp
  | x :: l, 0 => by simp
  | x :: l, k + 1 => by
    rw [List.drop_succ_cons, zdm ok te l k, List.flatMap_cons, List.drop_append, ok.len, Nat.add_mul, Nat.one_mul, Nat.add_sub_cancel]
    rw [(List.drop_of_length_le (by rw [ok.len]; omega) : List.drop (k * P.cellsOf te + P.cellsOf te) (cd.enc te x) = [])]
    rfl
theorem zdn (ok : CdOk P cd) (te : Nat) : ∀ (l : List (U te)) (k : Nat), (l.take k).flatMap (cd.enc te) = (l.flatMap (cd.enc te)).take (k * P.cellsOf te)
  | [], k => by simp
  | x :: l, 0 => by simp
  | x :: l, k + 1 => by
    rw [List.take_succ_cons, List.flatMap_cons, zdn ok te l k, List.flatMap_cons, List.take_append, ok.len, Nat.add_mul, Nat.one_mul, Nat.add_sub_cancel]
    rw [(List.take_of_length_le (by rw [ok.len]; omega) : List.take (k * P.cellsOf te + P.cellsOf te) (cd.enc te x) = cd.enc te x)]
theorem zja (ok : CdOk P cd) (te : Nat) (a : List (U te)) (i m : Nat) :
    ((a.drop i).take m).flatMap (cd.enc te) = ((a.flatMap (cd.enc te)).drop (i * P.cellsOf te)).take (m * P.cellsOf te) := by
  rw [zdn ok, zdm ok]
theorem z1x (te m : Nat) (a : List (U te)) : leaves cd [C.arr te m a] = a.flatMap (cd.enc te) := by simp [leaves, leaf]
theorem RL.chunk (ok : CdOk P cd) {te m n : Nat} {a : List (U te)} {vs : Array Value} (h : RL P cd M Fz w [.arr te n a] vs.toList) (i : Nat) (hi : i * m + m ≤ n) :
    RL P cd M Fz w [.arr te m ((a.drop (i * m)).take m)] (vs.extract (i * m * P.cellsOf te) (i * m * P.cellsOf te + m * P.cellsOf te)).toList := by
  have hl : a.length = n := h.1 te n a (by simp)
  refine h.of_leaves (i * m * P.cellsOf te) (m * P.cellsOf te) ?_ ?_ ?_
  · intro t k l hm
    simp at hm
    obtain ⟨rfl, rfl, hm⟩ := hm
    have := eq_of_heq hm
    subst this
    simp
    omega
  · rw [z1x, z1x, zja ok]
  · rw [extract_toList]

theorem zje : ∀ (k t : Nat), arrOk P k t = true → P.cellsOf t = (leafOf P k t).2 * P.cellsOf (leafOf P k t).1
  | 0, t, _ => by simp [leafOf]
  | k + 1, t, h => by
    simp only [arrOk] at h
    simp only [leafOf]
    split at h
    · rename_i n e hu
      rw [cond_eq_ite] at h
      split at h
      · rename_i h1
        simp only [Bool.and_eq_true] at h1
        simp only [Nat.eq_of_beq_eq_true h1.2, zje k e h, Nat.mul_assoc]
      · cases h
    · simp
theorem z21s (ok : CdOk P cd) {te : Nat} {dq : DecidableEq (U te)} (hdq : cd.deq te = some dq) : ∀ (k d t m : Nat) (a b : List (U te)) (vs us : Array Value), leafOf P k t = (te, m) → 4 + k ≤ d → arrOk P k t = true →
    RL P cd M Fz w [.arr te m a] vs.toList → RL P cd M Fz w [.arr te m b] us.toList → EqAt P w d t vs us (@decide (a = b) (@instDecidableEqList _ dq a b)) := by
  have base : ∀ (d : Nat) (a b : List (U te)) (vs us : Array Value), 4 ≤ d → RL P cd M Fz w [.arr te 1 a] vs.toList → RL P cd M Fz w [.arr te 1 b] us.toList → EqAt P w d te vs us (@decide (a = b) (@instDecidableEqList _ dq a b)) := by
    intro d a b vs us hd ha hb
    have la : a.length = 1 := ha.1 te 1 a (by simp)
    have lb : b.length = 1 := hb.1 te 1 b (by simp)
    match a, la, b, lb with
    | [x], _, [y], _ =>
      have enc : ∀ (z : U te) (zs : Array Value), RL P cd M Fz w [.arr te 1 [z]] zs.toList → RL P cd M Fz w (cd.enc te z) zs.toList := by
        intro z zs hz
        have hl : leaves cd (cd.enc te z) = cd.enc te z := by
          have hp := ok.plain te z
          revert hp
          generalize cd.enc te z = q
          intro hp
          induction q with
          | nil => rfl
          | cons c q ih =>
            rw [leaves_cons, ih fun c' hc' => hp c' (by simp [hc'])]
            have := hp c (by simp)
            cases c <;> simp [plainC] at this <;> rfl
        refine ⟨fun t n l hm => ?_, ?_, ?_⟩
        · have := ok.plain te z _ hm; simp [plainC] at this
        · have := hz.2.1; rw [z1x] at this; simpa [hl] using this
        · intro j c v h1 h2
          rw [hl] at h1
          exact hz.2.2 j c v (by rw [z1x]; simpa using h1) h2
      have := (z1du ok 4 d te _ _ _ vs us hd (ok.eq te dq x y hdq) (enc x vs ha) (enc y us hb)).2
      have e : (@decide (x = y) (dq x y)) = (@decide ([x] = [y]) (@instDecidableEqList _ dq [x] [y])) := by
        rw [Bool.eq_iff_iff]; simp
      rw [← e]
      exact this
  intro k
  induction k with
  | zero =>
    intro d t m a b vs us h hd _ ha hb
    simp only [leafOf, Prod.mk.injEq] at h
    obtain ⟨rfl, rfl⟩ := h
    exact base d a b vs us (by omega) ha hb
  | succ k ih =>
    intro d t m a b vs us h hd hk ha hb
    simp only [leafOf] at h
    split at h
    · rename_i n e hu
      simp only [Prod.mk.injEq] at h
      obtain ⟨he, rfl⟩ := h
      obtain ⟨d, rfl⟩ : ∃ d', d = d' + 1 := ⟨d - 1, by omega⟩
      have hag : isAggB P t = true := by simp [isAggB, hu]
      simp only [arrOk, hu, cond_eq_ite] at hk
      split at hk
      · rename_i hk1
        simp only [Bool.and_eq_true] at hk1
        obtain ⟨td, htd⟩ := Option.isSome_iff_exists.1 hk1.1
        have hce := zje k e hk
        rw [he] at hce
        refine And.intro (fun _ => ?_) (fun x => by rw [hag] at x; cases x)
        rw [run_equalIn_array d t n e td vs us hu htd]
        generalize hr : (leafOf P k e).2 = r at *
        have la : a.length = n * r := ha.1 te _ a (by simp)
        have lb : b.length = n * r := hb.1 te _ b (by simp)
        have sa : vs.size = n * P.cellsOf e := by
          have := ha.2.1
          rw [z1x, z1p ok, la, Nat.mul_assoc, ← hce] at this
          simpa using this
        have sb : us.size = n * P.cellsOf e := by
          have := hb.2.1
          rw [z1x, z1p ok, lb, Nat.mul_assoc, ← hce] at this
          simpa using this
        rw [z1rb (fun i => @decide ((a.drop (i * r)).take r = (b.drop (i * r)).take r) (@instDecidableEqList _ dq _ _))]
        · congr 1
          rw [Bool.eq_iff_iff]
          simp only [List.all_eq_true, List.mem_range, decide_eq_true_eq]
          exact z1mf r n a b la lb
        · intro i hi
          rw [List.mem_range] at hi
          have hir : i * r + r ≤ n * r := by rw [← Nat.succ_mul]; exact Nat.mul_le_mul_right r hi
          have hio : i * P.cellsOf e + P.cellsOf e ≤ n * P.cellsOf e := by rw [← Nat.succ_mul]; exact Nat.mul_le_mul_right _ hi
          have ca := ha.chunk ok i hir
          have cb := hb.chunk ok i hir
          rw [Nat.mul_assoc i r, ← hce] at ca cb
          have h1 := ih d e r _ _ _ _ (by rw [← he, ← hr]) (by omega) hk ca cb
          obtain ⟨p1, p2, p3⟩ := h1.part htd (by omega) (by omega)
          exact ⟨_, _, p1, p2, p3⟩
      · cases hk
    · simp only [Prod.mk.injEq] at h
      obtain ⟨rfl, rfl⟩ := h
      exact base d a b vs us (by omega) ha hb


theorem z1rc (ok : CdOk P cd) : ∀ (f d t : Nat) (xs ys : List (C U)) (b : Bool) (vs us : Array Value), f + 13 ≤ d → eqT P cd true f t xs ys = some b → RL P cd M Fz w xs vs.toList → RL P cd M Fz w ys us.toList →
    (∃ td, P.underlying t = some td) ∧ EqAt P w d t vs us b
  | 0, _, _, _, _, _, _, _, _, h, _, _ => by simp [eqT] at h
  | f + 1, d, t, xs, ys, b, vs, us, hd, h, hx, hy => by
    cases hu : P.underlying t with
    | none => simp [eqT, hu] at h
    | some td =>
      by_cases ha : ∃ n e, td = .array n e
      · obtain ⟨n, e, rfl⟩ := ha
        refine ⟨⟨_, rfl⟩, ?_⟩
        simp only [eqT, hu] at h
        split at h
        · rename_i te m a te' m' b'
          split at h
          · rename_i hte
            subst hte
            split at h
            · rename_i dq hdq
              rw [cond_eq_ite] at h
              split at h
              · rename_i hc
                simp only [Bool.and_eq_true, Bool.true_and] at hc
                obtain ⟨⟨⟨c0, c1⟩, c2⟩, c3⟩ := hc
                have c1 := Nat.eq_of_beq_eq_true c1
                have c2 := Nat.eq_of_beq_eq_true c2
                have c3 := Nat.eq_of_beq_eq_true c3
                injection h with h
                subst h
                subst c3
                exact z21s ok hdq 10 d t m' a b' vs us (by simp only [leafOf, hu, Prod.mk.injEq]; exact ⟨c1.symm, c2.symm⟩) (by omega) c0 hx hy
              · cases h
            · cases h
          · cases h
        · cases h
      · by_cases hs : ∃ fs, td = .struct fs
        · obtain ⟨fs, rfl⟩ := hs
          obtain ⟨d, rfl⟩ : ∃ e, d = e + 1 := ⟨d - 1, by omega⟩
          have hag : isAggB P t = true := by simp [isAggB, hu]
          refine ⟨⟨_, rfl⟩, And.intro (fun _ => ?_) (fun e => by rw [hag] at e; cases e)⟩
          simp only [eqT, hu, cond_eq_ite] at h
          split at h
          · cases h
          · rename_i hs
            have hf : P.fieldsOf t = fs := by simp [Program.fieldsOf, hu]
            rw [run_equalIn_struct w d t vs us (by rw [hf]; exact hu) (by simpa using hs), hf]
            exact z184 ok (fun t xs ys b vs us h1 h2 h3 => z1rc ok f d t xs ys b vs us (by omega) h1 h2 h3) hx hy _ _ h
        · have h' : eqT P cd false (f + 1) t xs ys = some b := by
            cases td <;> first
              | exact absurd ⟨_, rfl⟩ hs
              | exact absurd ⟨_, _, rfl⟩ ha
              | (simp only [eqT, hu] at h ⊢; first | exact h | cases h)
          have := z1du ok (f + 1) d t xs ys b vs us (by omega) h' hx hy
          exact ⟨⟨_, rfl⟩, this.2⟩

theorem z1rd {deep : Bool} {f t : Nat} {a c : C U} {b : Bool} (h : eqT P cd deep f t [a] [c] = some b) (hag : isAggB P t = false) : (∃ x, asB a = some x) ∨ (∃ k n, a = .int k n) ∨ ∃ s, a = .str s := by
  cases f with
  | zero => simp [eqT] at h
  | succ f =>
    cases hu : P.underlying t with
    | none => simp [eqT, hu] at h
    | some td =>
      cases td <;> simp only [eqT, hu] at h <;> first | (cases h; done) | (simp [isAggB, hu] at hag; done) | skip
      · cases ha : asB a with
        | none => simp [ha] at h
        | some x => exact .inl ⟨x, rfl⟩
      · cases a <;> first | (cases h; done) | exact .inr (.inl ⟨_, _, rfl⟩)
      · cases a <;> first | (cases h; done) | exact .inr (.inr ⟨_, rfl⟩)
theorem z1z8 (ok : CdOk P cd) {t : Nat} {x y : V U} {vx vy : Value} {b : Bool} (h : eqV P cd t x y = some b) (hx : RV P cd M Fz w x vx) (hy : RV P cd M Fz w y vy) (op : BinOp) (ox oy : Operand) :
    (eqGuard op t ox oy vx vy).run P w = .ok () w ∧ (Op.equal t vx vy).run P w = .ok b w := by
  unfold eqV at h
  rw [cond_eq_ite] at h
  split at h
  · cases h
  · rename_i hg
    have hg : P.eqGuardType P.depth t = false := by simpa using hg
    rw [cond_eq_ite] at h
    split at h
    · rename_i hag
      split at h
      · rename_i a c
        obtain ⟨va, rfl, ra⟩ := hx
        obtain ⟨vc, rfl, rc⟩ := hy
        exact ⟨run_eqGuard_agg w op t ox oy va vc hg, (z1rc ok 8 10000 t a c b va vc (by omega) h ra rc).2.1 hag⟩
      · cases h
    · rename_i hag
      split at h
      · rename_i a c
        have ra : RL P cd M Fz w [a] (#[vx] : Array Value).toList := RL.of1 hx
        have rc : RL P cd M Fz w [c] (#[vy] : Array Value).toList := RL.of1 hy
        obtain ⟨v, u, e1, e2, he⟩ := (z1rc ok 8 10000 t [a] [c] b #[vx] #[vy] (by omega) h ra rc).2.2 (by simpa using hag)
        simp at e1 e2
        subst e1; subst e2
        refine ⟨?_, he⟩
        rcases z1rd h (by simpa using hag) with ⟨x, hx'⟩ | ⟨k, n, rfl⟩ | ⟨s, rfl⟩
        · have := R1.asB_inv hx hx'
          subst this
          exact zfm op t ox oy _ _ rfl (by simp)
        · have := R1.int_inv hx
          subst this
          exact zfm op t ox oy _ _ rfl (by simp)
        · have := R1.str_inv hx
          subst this
          exact zfm op t ox oy _ _ rfl (by simp)
      · cases h
end
end Go.Ab
end
section
set_option linter.unusedSimpArgs false
namespace Go.Ab
variable {U : Nat → Type}
section
variable {P : Program} {cd : Cd U} {M M' : Mp} {Fz Fz' : Nat → Prop} {w w' : World}

def Post (P : Program) (cd : Cd U) (M : Mp) (Fz : Nat → Prop) (w : World) (d : D U) (hp' : List (Blk U)) (v : Value) (w' : World) : Prop :=
  ∃ M' Fz', RD P cd M' Fz' w' d v ∧ HR P cd M' Fz' hp' w' ∧ Ext M M' ∧ Frz Fz w Fz' w' ∧ Keep (Held M) w w' ∧ (∀ k, Held M' k → Held M k ∨ w.heap.size ≤ k) ∧ (∀ k, Fz' k → Fz k ∨ Held M k ∨ w.heap.size ≤ k)
theorem Post.same {d : D U} {hp : List (Blk U)} {v : Value} (h : HR P cd M Fz hp w) (hd : RD P cd M Fz w d v) : Post P cd M Fz w d hp v w :=
  ⟨M, Fz, hd, h, .refl _, .refl _ _, .refl _ _, fun _ h => .inl h, fun _ h => .inl h⟩
def K.sem (k : K U) (hp : List (Blk U)) (id : Nat) : Option (D U × List (Blk U)) := match k with
  | .pur t => t.run.map fun d => (d, hp)
  | .alo t mk => t.run.map fun blk => (.v (.one (mk id)), setN hp id blk)
  | .lod b f => match nth hp b with
    | some .dead => none
    | some blk => (f blk).run.map fun d => (d, hp)
    | none => none
  | .wri f => (f hp id).run
def ValOk (P : Program) (cd : Cd U) (M : Mp) (Fz : Nat → Prop) (w : World) (hp : List (Blk U)) (id : Nat) (x : Sem Value) (k : K U) : Prop :=
  ∀ d hp', k.sem hp id = some (d, hp') → ∃ v w', x.run P w = .ok v w' ∧ Post P cd M Fz w d hp' v w'
theorem ValOk.pur {hp : List (Blk U)} {id : Nat} {x : Sem Value} {t : Tree (D U)} (h : HR P cd M Fz hp w) (ht : PurOk P cd M Fz w x t) : ValOk P cd M Fz w hp id x (.pur t) := by
  intro d hp' hd
  simp only [K.sem] at hd
  cases hr : t.run with
  | none => rw [hr] at hd; cases hd
  | some d' =>
    rw [hr] at hd
    simp only [Option.map_some, Option.some.injEq, Prod.mk.injEq] at hd
    obtain ⟨rfl, rfl⟩ := hd
    obtain ⟨v, h1, h2⟩ := ht d' hr
    exact ⟨v, w, h1, .same h h2⟩
theorem ValOk.fail {hp : List (Blk U)} {id : Nat} {x : Sem Value} : ValOk P cd M Fz w hp id x (.pur .fail) := by
  intro d hp' hd; cases hd
theorem ValOk.lod {hp : List (Blk U)} {id b : Nat} {x : Sem Value} {f : Blk U → Tree (D U)} (h : HR P cd M Fz hp w) (hf : ∀ blk, hp[b]? = some blk → PurOk P cd M Fz w x (f blk)) : ValOk P cd M Fz w hp id x (.lod b f) := by
  intro d hp' hd
  simp only [K.sem, z25] at hd
  cases hb : hp[b]? with
  | none => simp [hb] at hd
  | some blk =>
    have ht := hf blk hb
    cases blk with
    | dead => simp [hb] at hd
    | _ =>
      simp only [hb] at hd
      obtain ⟨d', hr, hd⟩ := Option.map_eq_some_iff.1 hd
      simp only [Prod.mk.injEq] at hd
      obtain ⟨rfl, rfl⟩ := hd
      obtain ⟨v, h1, h2⟩ := ht d' hr
      exact ⟨v, w, h1, .same h h2⟩

theorem z1re {t : Nat} {x y : V U} {vx vy : Value} {b : Bool} (h : eqV P cd t x y = some b) (hx : RV P cd M Fz w x vx) (hy : RV P cd M Fz w y vy)
    (hi : ¬ ∃ k a k' b, x = .one (.int k a) ∧ y = .one (.int k' b)) (hs : ¬ ∃ a b, x = .one (.str a) ∧ y = .one (.str b)) :
    binOp .eql t vx vy = (do pure (.bool (← Op.equal t vx vy))) ∧ binOp .neq t vx vy = (do pure (.bool (!(← Op.equal t vx vy)))) := by
  have : (∃ a c, vx = .agg a ∧ vy = .agg c) ∨ (∃ a c, vx = .bool a ∧ vy = .bool c) := by
    unfold eqV at h
    rw [cond_eq_ite] at h
    split at h
    · cases h
    · rw [cond_eq_ite] at h
      split at h
      · split at h
        · obtain ⟨va, rfl, _⟩ := hx
          obtain ⟨vc, rfl, _⟩ := hy
          exact .inl ⟨_, _, rfl, rfl⟩
        · cases h
      · rename_i hag
        split at h
        · rename_i a c
          rw [Bool.not_eq_true] at hag
          rcases z1rd h hag with ⟨x, hx'⟩ | ⟨k, n, rfl⟩ | ⟨s, rfl⟩
          · obtain rfl := R1.asB_inv hx hx'
            have hc : ∃ y, asB c = some y := by
              cases hu : P.underlying t with
              | none => simp [eqT, hu] at h
              | some td =>
                cases td <;> simp only [eqT, hu] at h <;> first | (cases h; done) | (simp [isAggB, hu] at hag; done) | skip
                · cases hc : asB c with
                  | none => simp [hx', hc] at h
                  | some y => exact ⟨y, rfl⟩
                · cases a <;> first | (cases h; done) | (simp [asB] at hx'; done)
                · cases a <;> first | (cases h; done) | (simp [asB] at hx'; done)
            obtain ⟨y, hy'⟩ := hc
            obtain rfl := R1.asB_inv hy hy'
            exact .inr ⟨_, _, rfl, rfl⟩
          · exfalso
            cases hu : P.underlying t with
            | none => simp [eqT, hu] at h
            | some td =>
              cases td <;> simp only [eqT, hu] at h <;> first | (cases h; done) | (simp [isAggB, hu] at hag; done) | skip
              · cases c <;> first | (cases h; done) | exact hi ⟨_, _, _, _, rfl, rfl⟩
          · exfalso
            cases hu : P.underlying t with
            | none => simp [eqT, hu] at h
            | some td =>
              cases td <;> simp only [eqT, hu] at h <;> first | (cases h; done) | (simp [isAggB, hu] at hag; done) | skip
              · cases c <;> first | (cases h; done) | exact hs ⟨_, _, rfl, rfl⟩
        · cases h
  rcases this with ⟨a, c, rfl, rfl⟩ | ⟨a, c, rfl, rfl⟩
  · exact ⟨rfl, rfl⟩
  · exact ⟨rfl, rfl⟩
theorem z22n (ok : CdOk P cd) (op : BinOp) (t : Nat) (ox oy : Operand) {x y : V U} {vx vy : Value} (hx : RV P cd M Fz w x vx) (hy : RV P cd M Fz w y vy) :
    ∃ tr, binK P cd t op x y = .pur tr ∧ PurOk P cd M Fz w (do eqGuard op t ox oy vx vy; binOp op t vx vy) tr := by
  by_cases hi : ∃ k a k' b, x = .one (.int k a) ∧ y = .one (.int k' b)
  · obtain ⟨k, a, k', b, rfl, rfl⟩ := hi
    obtain rfl := R1.int_inv hx
    obtain rfl := R1.int_inv hy
    have : ∃ tr, binK P cd t op (.one (.int k a)) (.one (.int k' b)) = .pur tr := by
      cases op <;> simp only [binK] <;> first | exact ⟨_, rfl⟩ | (cases decide (k = k') <;> exact ⟨_, rfl⟩)
    obtain ⟨tr, htr⟩ := this
    exact ⟨tr, htr, z21t op t ox oy k k' a b tr htr⟩
  · by_cases hs : ∃ a b, x = .one (.str a) ∧ y = .one (.str b)
    · obtain ⟨a, b, rfl, rfl⟩ := hs
      obtain rfl := R1.str_inv hx
      obtain rfl := R1.str_inv hy
      have : ∃ tr, binK P cd t op (.one (.str a)) (.one (.str b)) = .pur tr := by
        cases op <;> exact ⟨_, rfl⟩
      obtain ⟨tr, htr⟩ := this
      exact ⟨tr, htr, z21u op t ox oy a b tr htr⟩
    · have hk : binK P cd t op x y = (match op with
          | .eql => .pur (match eqV P cd t x y with | some b => one (.bool b) | none => .fail)
          | .neq => .pur (match eqV P cd t x y with | some b => one (.bool (!b)) | none => .fail)
          | _ => .pur .fail) := by
        unfold binK
        split
        · exact absurd ⟨_, _, _, _, rfl, rfl⟩ hi
        · exact absurd ⟨_, _, rfl, rfl⟩ hs
        · rfl
      rw [hk]
      cases op <;> first | exact ⟨_, rfl, .fail⟩ | skip
      · refine ⟨_, rfl, ?_⟩
        cases he : eqV P cd t x y with
        | none => exact .fail
        | some b =>
          obtain ⟨h1, h2⟩ := z1z8 ok he hx hy .eql ox oy
          refine .one ?_ (.bool b)
          have hb := z1re he hx hy hi hs
          simp only [Sem.run_bind, h1, Result.andThen, hb.1, h2]
          rfl
      · refine ⟨_, rfl, ?_⟩
        cases he : eqV P cd t x y with
        | none => exact .fail
        | some b =>
          obtain ⟨h1, h2⟩ := z1z8 ok he hx hy .neq ox oy
          refine .one ?_ (.bool _)
          have hb := z1re he hx hy hi hs
          simp only [Sem.run_bind, h1, Result.andThen, hb.2, h2]
          rfl

theorem z235 (op : UnOp) {x : V U} {vx : Value} (hx : RV P cd M Fz w x vx) : ∃ tr, unK op x = .pur tr ∧ PurOk P cd M Fz w (Op.unary op vx) tr := by
  cases x with
  | agg cs => exact ⟨_, rfl, .fail⟩
  | one c =>
    cases c <;> first | exact ⟨_, rfl, .fail⟩ | skip
    · obtain rfl := R1.asB_inv hx rfl
      cases op <;> first | exact ⟨_, rfl, .fail⟩ | exact ⟨_, rfl, .one (by simp [Op.unary]) (.kb _)⟩
    · obtain rfl := R1.asB_inv hx rfl
      cases op <;> first | exact ⟨_, rfl, .fail⟩ | exact ⟨_, rfl, .one (by simp [Op.unary]) (.bool _)⟩
    · obtain rfl := R1.int_inv hx
      cases op <;> first | exact ⟨_, rfl, .fail⟩ | exact ⟨_, rfl, .one rfl (.int _ _)⟩

theorem z22g {t : Nat} {c : C U} {v : Value} (h : R1 P cd M Fz w c v) : R1 P cd M Fz w (typC P t c) v := by
  unfold typC
  split
  · split
    · cases h
      exact .sl _ [] true none 0 (fun _ => undef) (fun _ => rfl) (Nat.le_refl _) (fun e => absurd rfl e) (fun j c hj => by simp at hj)
    · exact h
  · exact h
theorem zlk {t : Nat} {x : V U} {v : Value} (h : RV P cd M Fz w x v) : RV P cd M Fz w (typV P t x) v := by
  cases x with
  | one c => exact z22g h
  | agg cs => exact h
theorem z19u {t : Nat} {x : D U} {v : Value} (h : RD P cd M Fz w x v) : RD P cd M Fz w (typD P t x) v := by
  cases x with
  | v x => exact zlk h
  | tup xs => exact h
theorem z18n (v : Value) : R1 P cd M Fz w (ofVal1 v) v := by
  unfold ofVal1
  split
  · exact .kb _
  · exact .int _ _
  · rename_i s
    have : s = ⟨s.data.toList.toArray⟩ := by cases s; simp
    rw [this]
    exact .str _
  · exact .nils
  · exact .nilp
  · exact .unk _
theorem zjf {cs : List (C U)} (h : ∀ c ∈ cs, ∀ t n l, c ≠ C.arr t n l) : leaves cd cs = cs := by
  induction cs with
  | nil => rfl
  | cons c cs ih =>
    rw [leaves_cons, ih fun c hc => h c (by simp [hc])]
    have := h c (by simp)
    cases c <;> first | rfl | exact absurd rfl (this _ _ _)
theorem RL.of_plain {cs : List (C U)} {vs : List Value} (hn : ∀ c ∈ cs, ∀ t n l, c ≠ C.arr t n l) (hl : vs.length = cs.length) (h : ∀ (j : Nat) c v, cs[j]? = some c → vs[j]? = some v → R1 P cd M Fz w c v) : RL P cd M Fz w cs vs := by
  refine ⟨fun t n l hm => absurd rfl (hn _ hm t n l), by rw [zjf hn, hl], fun j c v h1 h2 => ?_⟩
  rw [zjf hn] at h1
  exact h j c v h1 h2
theorem z18m (v : Value) : ∀ t n l, ofVal1 (U := U) v ≠ C.arr t n l := by
  intro t n l
  unfold ofVal1
  split <;> simp
theorem z218 (v : Value) : RD P cd M Fz w (ofVal v) v := by
  unfold ofVal
  split
  · rename_i cs
    refine ⟨cs, rfl, RL.of_plain ?_ (by simp) ?_⟩
    · intro c hc t n l
      obtain ⟨v, _, rfl⟩ := List.mem_map.1 hc
      exact z18m v t n l
    · intro j c v h1 h2
      rw [List.getElem?_map, h2] at h1
      simp at h1
      subst h1
      exact z18n v
  · exact z18n v
theorem z21n {tm : List (Nat × D U)} {a : Act} (h : Tm P cd M Fz w tm a.tmps) (x : Operand) : RD P cd M Fz w (ev tm x) (a.eval x) := by
  cases x with
  | tmp t =>
    simp only [ev, Act.eval]
    cases hg : getA tm t with
    | none => exact .unk _
    | some d =>
      obtain ⟨v, h1, h2⟩ := h t d hg
      simp only [Array.getD_eq_getD_getElem?, h1, Option.getD_some]
      exact h2
  | const v => exact z218 v
  | global g => exact R1.gp g 0
  | func f =>
    have := R1.fn (P := P) (cd := cd) (M := M) (Fz := Fz) (w := w) f [] [] (fun _ => undef) (fun _ => undef) (fun j x h => by simp at h) (fun j x h => by simp at h)
    exact this

/-! ### fields and elements -/
theorem z1mj {t f o tf : Nat} (h : zgp P t f = some (o, tf)) : ∃ fs f', P.underlying t = some (.struct fs) ∧ fs[f]? = some f' ∧ f'.offset = o ∧ f'.type = tf := by
  unfold zgp at h
  split at h
  · rename_i fs hu
    split at h
    · rename_i f' hf
      simp only [Option.some.injEq, Prod.mk.injEq] at h
      exact ⟨fs, f', hu, by simpa using hf, h.1, h.2⟩
    · cases h
  · cases h
theorem z20w (ok : CdOk P cd) (t f : Nat) {x : V U} {vx : Value} (hx : RV P cd M Fz w x vx) : ∃ tr, fieldK P t f x = .pur tr ∧ PurOk P cd M Fz w (Instr.field t vx f) tr := by
  unfold fieldK
  split
  · rename_i cs
    obtain ⟨a, rfl, ra⟩ := hx
    split
    · rename_i q tf hq
      obtain ⟨fs, f', hu, hf, rfl, rfl⟩ := z1mj hq
      split
      · rename_i r hr
        split
        · rename_i v hv
          refine ⟨_, rfl, ?_⟩
          obtain ⟨y, h1, h2⟩ := z22d ok ra hr hv
          refine .leaf (v := y) ?_ h2
          simp only [Instr.field, Sem.run_bind, run_underlying hu, Result.andThen, hf, asAgg]
          simpa using h1
        · exact ⟨_, rfl, .fail⟩
      · exact ⟨_, rfl, .fail⟩
    · exact ⟨_, rfl, .fail⟩
  · exact ⟨_, rfl, .fail⟩

/-! ### rows by their places -/
theorem HR.row {hp : List (Blk U)} (h : HR P cd M Fz hp w) {b t ver : Nat} {l : List (U t)} (hb : hp[b]? = some (.row t ver l)) :
    ∃ pos cap, M b = some (.row pos t ver l.length cap) ∧ RowPos P cd M Fz w mk0 t l cap pos := h.blk b _ hb
theorem HR.cells {hp : List (Blk U)} (h : HR P cd M Fz hp w) {b : Nat} {cs : List (C U)} {tg : Option Nat} (hb : hp[b]? = some (.cells cs tg)) :
    ∃ k arr, ∃ e : Tag tg, M b = some (.cells k) ∧ w.heap[k]? = some (.cells arr e.1 (0, 0)) ∧ RL P cd M Fz w cs arr.toList := h.blk b _ hb

theorem z1ra {α : Type} {x : Sem Value} {l : List α} {i : Int} {f : α → Tree (D U)} (h : 0 ≤ i → ∀ y, l[i.toNat]? = some y → PurOk P cd M Fz w x (f y)) : PurOk P cd M Fz w x (elemT l i f) :=
  .ite (fun h0 => .opt fun y hy => h (of_decide_eq_true h0) y hy) (fun _ => .fail)

theorem z9y (ok : CdOk P cd) {t : Nat} {l : List (U t)} {i : Nat} {x : U t} (h : l[i]? = some x) (j : Nat) (c : C U) (hj : (cd.enc t x)[j]? = some c) : (l.flatMap (cd.enc t))[i * P.cellsOf t + j]? = some c := by
  have hlt : j < P.cellsOf t := by rw [← ok.len t x]; exact (List.getElem?_eq_some_iff.1 hj).1
  have e := zja ok t l i 1
  have hx : (l.drop i).take 1 = [x] := by
    rw [List.take_one]
    simp [h]
  rw [hx, Nat.one_mul] at e
  have e2 : ((l.flatMap (cd.enc t)).drop (i * P.cellsOf t)).take (P.cellsOf t) = cd.enc t x := by rw [← e]; simp
  rw [← e2, List.getElem?_take, if_pos hlt, List.getElem?_drop] at hj
  exact hj
theorem R1.sl_elem (ok : CdOk P cd) {t : Nat} {l : List (U t)} {full : Bool} {v : Value} (h : R1 P cd M Fz w (.sl t l full) v) {i : Nat} {x : U t} (hx : l[i]? = some x) :
    ∃ k o cap, v = .slice (some (at0 k o)) l.length cap ∧ R1 P cd M Fz w (.xp t x 0) (.pointer (some (at0 k (o + i * P.cellsOf t)))) := by
  cases h with
  | sl _ _ _ a cap f h1 h0 h2 h3 =>
    have hne : l ≠ [] := by intro e; subst e; simp at hx
    obtain ⟨k, o, rfl, hk, hc⟩ := h2 hne
    refine ⟨k, o, cap, rfl, ?_⟩
    have := R1.xp (P := P) (cd := cd) (M := M) (Fz := Fz) (w := w) t x 0 k (o + i * P.cellsOf t) (fun j => f (i * P.cellsOf t + j)) hk
      (fun j c hj => by rw [Nat.add_assoc]; exact hc _ c (z9y ok hx j c hj)) (fun j c hj => h3 _ c (z9y ok hx j c hj))
    simpa using this
theorem R1.sl_form {t : Nat} {l : List (U t)} {full : Bool} {v : Value} (h : R1 P cd M Fz w (.sl t l full) v) : ∃ a cap, v = .slice a l.length cap ∧ (full = true → cap = l.length) ∧ l.length ≤ cap := by
  cases h with
  | sl _ _ _ a cap f h1 h0 h2 h3 => exact ⟨a, cap, rfl, h1, h0⟩

theorem zc9 {t e : Nat} {td : TypeDesc} (ht : P.underlying t = some (.slice e)) (he : P.underlying e = some td) (k : IntKind) (i : Int) (a : Addr) (n c : Nat) (h0 : 0 ≤ i) (hi : i < n) :
    (Instr.indexAt t (.slice (some a) n c) (.int k i)).run P w = .ok (.pointer (some (a.add (i.toNat * P.cellsOf e)))) w := by
  simp only [Instr.indexAt, asIntOf, Sem.run_bind, Sem.run_pure, Result.andThen, run_underlying ht, z82 he, if_pos (And.intro h0 hi)]
theorem zf2 {t te : Nat} (h : slOf P t te = true) : P.underlying t = some (.slice te) ∧ ∃ td, P.underlying te = some td := by
  unfold slOf at h
  split at h
  · rename_i e hu
    rw [cond_eq_ite] at h
    split at h
    · rename_i he
      obtain rfl := Nat.eq_of_beq_eq_true he
      exact ⟨hu, Option.isSome_iff_exists.1 h⟩
    · cases h
  · cases h
theorem z1zn {α : Type} {l : List α} {i : Int} {y : α} (h0 : 0 ≤ i) (h : l[i.toNat]? = some y) : i < (l.length : Int) := by
  have := (List.getElem?_eq_some_iff.1 h).1
  omega
theorem HR.row_at {hp : List (Blk U)} (h : HR P cd M Fz hp w) {b t ver : Nat} {l : List (U t)} (hb : hp[b]? = some (.row t ver l)) {pos : Option Nat} {t' len cap ver' : Nat} (hm : M b = some (.row pos t' ver' len cap)) :
    t' = t ∧ ver' = ver ∧ len = l.length ∧ RowPos P cd M Fz w mk0 t l cap pos := by
  obtain ⟨p, c, h1, h2⟩ := h.row hb
  rw [h1] at hm
  simp only [Option.some.injEq, Inf.row.injEq] at hm
  obtain ⟨rfl, rfl, rfl, rfl, rfl⟩ := hm
  exact ⟨rfl, rfl, rfl, h2⟩
theorem HR.mrow_at {hp : List (Blk U)} (h : HR P cd M Fz hp w) {b t ver : Nat} {l : List (U t)} (hb : hp[b]? = some (.mrow t ver l)) {pos : Option Nat} {t' len cap ver' : Nat} (hm : M b = some (.row pos t' ver' len cap)) :
    t' = t ∧ ver' = ver ∧ len = l.length ∧ RowPos P cd M Fz w mk1 t l cap pos := by
  obtain ⟨p, c, h1, h2⟩ := h.blk b _ hb
  rw [h1] at hm
  simp only [Option.some.injEq, Inf.row.injEq] at hm
  obtain ⟨rfl, rfl, rfl, rfl, rfl⟩ := hm
  exact ⟨rfl, rfl, rfl, h2⟩
theorem HR.cells_at {hp : List (Blk U)} (h : HR P cd M Fz hp w) {b k : Nat} {cs : List (C U)} {tg : Option Nat} (hb : hp[b]? = some (.cells cs tg)) (hm : M b = some (.cells k)) :
    ∃ arr, ∃ e : Tag tg, w.heap[k]? = some (.cells arr e.1 (0, 0)) ∧ RL P cd M Fz w cs arr.toList := by
  obtain ⟨k', arr, e, h1, h2, h3⟩ := h.cells hb
  rw [h1] at hm
  simp only [Option.some.injEq, Inf.cells.injEq] at hm
  subst hm
  exact ⟨arr, e, h2, h3⟩

theorem run_indexAt_array {t n e : Nat} {td : TypeDesc} (ht : P.underlying t = some (.array n e)) (he : P.underlying e = some td) (k : IntKind) (i : Int) (a : Addr) (h0 : 0 ≤ i) (hi : i < n) :
    (Instr.indexAt t (.pointer (some a)) (.int k i)).run P w = .ok (.pointer (some (a.add (i.toNat * P.cellsOf e)))) w := by
  simp only [Instr.indexAt, asIntOf, Sem.run_bind, Sem.run_pure, Result.andThen, run_underlying ht, z82 he, Instr.sureAddr, if_pos (And.intro h0 hi)]
theorem z10a {f t n e : Nat} (h : arrOk P (f + 1) t = true) (hu : P.underlying t = some (.array n e)) : (∃ td, P.underlying e = some td) ∧ P.cellsOf t = n * P.cellsOf e ∧ arrOk P f e = true := by
  simp only [arrOk, hu, cond_eq_ite] at h
  split at h
  · rename_i h1
    simp only [Bool.and_eq_true] at h1
    exact ⟨Option.isSome_iff_exists.1 h1.1, Nat.eq_of_beq_eq_true h1.2, h⟩
  · cases h
theorem z1t6 (ok : CdOk P cd) {hp : List (Blk U)} {id : Nat} (h : HR P cd M Fz hp w) (t : Nat) {x i : V U} {vx vi : Value} (hx : RV P cd M Fz w x vx) (hi : RV P cd M Fz w i vi) :
    ValOk P cd M Fz w hp id (Instr.indexAt t vx vi) (z10l P t x i) := by
  unfold z10l
  split
  · rename_i te l full k i
    obtain rfl := R1.int_inv hi
    refine .pur h ?_
    rw [cond_eq_ite]
    split
    · rename_i hs
      obtain ⟨hu, td, htd⟩ := zf2 hs
      refine z1ra fun h0 y hy => ?_
      obtain ⟨kk, o, cap, rfl, hr⟩ := R1.sl_elem ok hx hy
      refine .one (v := .pointer (some (at0 kk (o + i.toNat * P.cellsOf te)))) ?_ hr
      rw [zc9 hu htd _ _ _ _ _ h0 (z1zn h0 hy), add0]
    · exact .fail
  · rename_i b v k i
    obtain rfl := R1.int_inv hi
    refine .lod h fun blk hb => ?_
    cases blk with
    | dead => exact .fail
    | cells cs => exact .fail
    | row te v' l =>
      simp only [cond_eq_ite]
      split
      · rename_i hc
        simp only [Bool.and_eq_true] at hc
        obtain ⟨hu, td, htd⟩ := zf2 hc.1
        obtain rfl := Nat.eq_of_beq_eq_true hc.2
        refine .ite (fun h0 => .ite (fun h1 => ?_) fun _ => .fail) fun _ => .fail
        have h0 := of_decide_eq_true h0
        have h1 := of_decide_eq_true h1
        cases hx with
        | row _ _ pos t' ver len cap _ hm hle hsc hv =>
          obtain ⟨rfl, rfl, rfl, hpos⟩ := h.row_at hb hm
          have hv := hv rfl
          cases pos with
          | none => subst hpos; simp at h1; omega
          | some kk =>
            simp only [RowV] at hv
            subst hv
            refine .one (v := .pointer (some (at0 kk (i.toNat * P.cellsOf t')))) ?_ ?_
            · rw [zc9 hu htd _ _ _ _ _ h0 h1, add0, Nat.zero_add]
            · exact .elp b _ _ 0 _ _ _ _ cap _ hm (Nat.le_refl _) rfl fun _ => ⟨by omega, kk, rfl, rfl⟩
      · exact .fail
    | mrow te v' l =>
      simp only [cond_eq_ite]
      split
      · rename_i hc
        simp only [Bool.and_eq_true] at hc
        obtain ⟨hu, td, htd⟩ := zf2 hc.1
        obtain rfl := Nat.eq_of_beq_eq_true hc.2
        refine .ite (fun h0 => .ite (fun h1 => ?_) fun _ => .fail) fun _ => .fail
        have h0 := of_decide_eq_true h0
        have h1 := of_decide_eq_true h1
        cases hx with
        | row _ _ pos t' ver len cap _ hm hle hsc hv =>
          obtain ⟨rfl, rfl, rfl, hpos⟩ := h.mrow_at hb hm
          have hv := hv rfl
          cases pos with
          | none => subst hpos; simp at h1; omega
          | some kk =>
            simp only [RowV] at hv
            subst hv
            refine .one (v := .pointer (some (at0 kk (i.toNat * P.cellsOf t')))) ?_ ?_
            · rw [zc9 hu htd _ _ _ _ _ h0 h1, add0, Nat.zero_add]
            · exact .elp b _ _ 0 _ _ _ _ cap _ hm (Nat.le_refl _) rfl fun _ => ⟨by omega, kk, rfl, rfl⟩
      · exact .fail
  · rename_i b v lo n k i
    obtain rfl := R1.int_inv hi
    refine .lod h fun blk hb => ?_
    cases blk with
    | dead => exact .fail
    | cells cs => exact .fail
    | row te v' l =>
      simp only [cond_eq_ite]
      split
      · rename_i hc
        simp only [Bool.and_eq_true] at hc
        obtain ⟨hu, td, htd⟩ := zf2 hc.1
        obtain rfl := Nat.eq_of_beq_eq_true hc.2
        refine .ite (fun h0 => .ite (fun h1 => ?_) fun _ => .fail) fun _ => .fail
        have h0 := of_decide_eq_true h0
        have h1 := of_decide_eq_true h1
        cases hx with
        | own _ _ _ _ pos t' ver len cap _ hm hle hsc hv =>
          obtain ⟨rfl, rfl, rfl, hpos⟩ := h.row_at hb hm
          obtain ⟨hlo, a, c, rfl, hnc, ha⟩ := hv rfl
          obtain ⟨kk, rfl, rfl⟩ := ha (by omega)
          refine .one (v := .pointer (some (at0 kk ((lo + i.toNat) * P.cellsOf t')))) ?_ ?_
          · rw [zc9 hu htd _ _ _ _ _ h0 h1, add0, Nat.add_mul]
          · exact .elp b _ _ 0 _ _ _ _ cap _ hm (Nat.le_refl _) rfl fun _ => ⟨by omega, kk, rfl, rfl⟩
      · exact .fail
    | mrow te v' l => exact .fail
  · rename_i b o te n k i
    obtain rfl := R1.int_inv hi
    refine .pur h ?_
    rw [cond_eq_ite]
    split
    · rename_i hc
      obtain ⟨hu, td, htd⟩ := zf2 hc
      refine .ite (fun h0 => .ite (fun h1 => ?_) fun _ => .fail) fun _ => .fail
      have h0 := of_decide_eq_true h0
      have h1 := of_decide_eq_true h1
      cases hx with
      | asl _ _ _ _ kk cap hm hcap =>
        refine .one (v := .pointer (some (at0 kk (o + i.toNat * P.cellsOf te)))) ?_ ?_
        · rw [zc9 hu htd _ _ _ _ _ h0 h1, add0]
        · have := R1.ap (P := P) (cd := cd) (M := M) (Fz := Fz) (w := w) b o te i.toNat 0 kk hm
          rwa [Nat.add_zero] at this
    · exact .fail
  · rename_i b o k i
    obtain rfl := R1.int_inv hi
    split
    · rename_i n e hu
      refine .lod h fun blk hb => ?_
      cases blk with
      | dead => exact .fail
      | row te v' l => exact .fail
      | mrow te v' l => exact .fail
      | cells cs =>
        simp only []
        split
        · rename_i t' m l hat
          rw [cond_eq_ite]
          split
          · rename_i hc
            simp only [Bool.and_eq_true] at hc
            obtain ⟨⟨td, htd⟩, hce, hae⟩ := z10a hc.1 hu
            have hle := zje 9 e hae
            have hte := Nat.eq_of_beq_eq_true hc.2
            refine .ite (fun h0 => .ite (fun h1 => ?_) fun _ => .fail) fun _ => .fail
            subst hte
            cases hx with
            | ptr _ _ kk hm =>
              refine .one (v := .pointer (some (at0 kk (o + i.toNat * P.cellsOf e)))) ?_ ?_
              · rw [run_indexAt_array hu htd _ _ _ (of_decide_eq_true h0) (of_decide_eq_true h1), add0]
              · have := R1.ap (P := P) (cd := cd) (M := M) (Fz := Fz) (w := w) b o (leafOf P 9 e).1 (i.toNat * (leafOf P 9 e).2) 0 kk hm
                rwa [Nat.add_zero, Nat.mul_assoc, ← hle] at this
          · exact .fail
        · split
          · rename_i q
            rw [cond_eq_ite]
            split
            · rename_i hc
              simp only [Bool.and_eq_true] at hc
              have hq : q < n := by simpa [Nat.blt_eq] using hc.1
              obtain ⟨td, htd⟩ := Option.isSome_iff_exists.1 hc.2
              cases hx with
              | ptr _ _ kk hm =>
                refine .one (v := .pointer (some (at0 kk (o + q * P.cellsOf e)))) ?_ (.ptr b _ kk hm)
                show (Instr.indexAt t (.pointer (some (at0 kk o))) (.int k (q : Int))).run P w = _
                rw [run_indexAt_array hu htd _ _ _ (Int.natCast_nonneg q) (by omega), add0, Int.toNat_natCast]
            · exact .fail
          · exact .fail
        · exact .fail
    · exact .fail
  · rename_i b o te j k i
    obtain rfl := R1.int_inv hi
    split
    · rename_i n e hu
      refine .pur h ?_
      rw [cond_eq_ite]
      split
      · rename_i hc
        simp only [Bool.and_eq_true] at hc
        obtain ⟨⟨td, htd⟩, hce, hae⟩ := z10a hc.1 hu
        have hle := zje 9 e hae
        have hte := Nat.eq_of_beq_eq_true hc.2
        refine .ite (fun h0 => .ite (fun h1 => ?_) fun _ => .fail) fun _ => .fail
        subst hte
        cases hx with
        | ap _ _ _ _ _ kk hm =>
          refine .one (v := .pointer (some (at0 kk (o + j * P.cellsOf (leafOf P 9 e).1 + i.toNat * P.cellsOf e)))) ?_ ?_
          · rw [run_indexAt_array hu htd _ _ _ (of_decide_eq_true h0) (of_decide_eq_true h1), Nat.add_zero, add0]
          · have := R1.ap (P := P) (cd := cd) (M := M) (Fz := Fz) (w := w) b o (leafOf P 9 e).1 (j + i.toNat * (leafOf P 9 e).2) 0 kk hm
            rwa [Nat.add_zero, Nat.add_mul, Nat.mul_assoc i.toNat, ← hle, ← Nat.add_assoc] at this
      · exact .fail
    · exact .fail
  · exact .fail
end
end Go.Ab
end
section
set_option linter.unusedSimpArgs false
namespace Go.Ab
variable {U : Nat → Type}
section
variable {P : Program} {cd : Cd U} {M M' : Mp} {Fz Fz' : Nat → Prop} {w w' : World}

theorem zmg {t f : Nat} {fs : Array Field} {f' : Field} {td : TypeDesc} (hu : P.underlying t = some (.struct fs)) (hf : fs[f]? = some f') (ht : P.underlying f'.type = some td) (hz : P.cellsOf f'.type ≠ 0) (k o : Nat) :
    (Instr.fieldAt t (.pointer (some (at0 k o))) f).run P w = .ok (.pointer (some (at0 k (o + f'.offset)))) w := by
  simp only [Instr.fieldAt, Sem.run_bind, run_underlying hu, Result.andThen, hf, Instr.sureAddr, Sem.run_pure, fieldPlace, z82 ht, if_neg hz, add0]
theorem zp8 {t f q : Nat} (h : fieldAd P t f = some q) : ∃ fs f', P.underlying t = some (.struct fs) ∧ fs[f]? = some f' ∧ (∃ td, P.underlying f'.type = some td) ∧ P.cellsOf f'.type ≠ 0 ∧ f'.offset = q := by
  unfold fieldAd at h
  split at h
  · rename_i q' tf hq
    obtain ⟨fs, f', hu, hf, rfl, rfl⟩ := z1mj hq
    rw [cond_eq_ite] at h
    split at h
    · rename_i hc
      simp only [Bool.and_eq_true, Bool.not_eq_true'] at hc
      injection h with h
      exact ⟨fs, f', hu, hf, Option.isSome_iff_exists.1 hc.1, fun e => by rw [e] at hc; simp at hc, h⟩
    · cases h
  · cases h
theorem z1rg {hp : List (Blk U)} {id : Nat} (h : HR P cd M Fz hp w) (t f : Nat) {x : V U} {vx : Value} (hx : RV P cd M Fz w x vx) : ValOk P cd M Fz w hp id (Instr.fieldAt t vx f) (z10h P t f x) := by
  unfold z10h
  split
  · split
    · rename_i b o _ q hq
      obtain ⟨fs, f', hu, hf, ⟨td, htd⟩, hz, rfl⟩ := zp8 hq
      cases hx with
      | ptr _ _ k hm => exact .pur h (.one (zmg hu hf htd hz k o) (.ptr b _ k hm))
    · exact .fail
  · split
    · rename_i b v i s _ q hq
      obtain ⟨fs, f', hu, hf, ⟨td, htd⟩, hz, rfl⟩ := zp8 hq
      refine .lod h fun blk hb => ?_
      cases blk with
      | dead => exact .fail
      | cells cs => exact .fail
      | mrow te v' l => exact .fail
      | row te v' l =>
        simp only [cond_eq_ite]
        split
        · rename_i hc
          obtain rfl := Nat.eq_of_beq_eq_true hc
          cases hx with
          | elp _ _ _ _ pos t' ver len cap _ hm hle hsc hv =>
            obtain ⟨rfl, rfl, rfl, hpos⟩ := h.row_at hb hm
            obtain ⟨hi, k, rfl, rfl⟩ := hv rfl
            refine .one (zmg hu hf htd hz k _) ?_
            exact .elp b _ i (s + f'.offset) _ _ _ _ cap _ hm (Nat.le_refl _) rfl fun _ => ⟨hi, k, rfl, by rw [Nat.add_assoc]⟩
        · exact .fail
    · exact .fail
  · split
    · rename_i te x s _ q hq
      obtain ⟨fs, f', hu, hf, ⟨td, htd⟩, hz, rfl⟩ := zp8 hq
      cases hx with
      | xp _ _ _ k o g h1 h2 h3 =>
        refine .pur h (.one (zmg hu hf htd hz k _) ?_)
        rw [Nat.add_assoc]
        exact .xp te x (s + f'.offset) k o g h1 h2 h3
    · exact .fail
  · split
    · rename_i b o te i s _ q hq
      obtain ⟨fs, f', hu, hf, ⟨td, htd⟩, hz, rfl⟩ := zp8 hq
      cases hx with
      | ap _ _ _ _ _ k hm =>
        refine .pur h (.one (zmg hu hf htd hz k _) ?_)
        rw [Nat.add_assoc]
        exact .ap b o te i (s + f'.offset) k hm
    · exact .fail
  · exact .fail

/-! ### loads -/
theorem z1i (ok : CdOk P cd) (t : Nat) (x : U t) : leaves cd (cd.enc t x) = cd.enc t x :=
  zjf fun c hc a b l e => by
    subst e
    have := ok.plain t x _ hc
    simp [plainC] at this
theorem z19o (ok : CdOk P cd) (t : Nat) (x : U t) : okA (cd.enc t x) := fun a n l hm => by
  have := ok.plain t x _ hm
  simp [plainC] at this
theorem z10w (ok : CdOk P cd) {t te sub k o : Nat} {x : U te} (f : Nat → Value) (hc : ∀ (j : Nat) c, (cd.enc te x)[j]? = some c → w.cell? (at0 k (o + j)) = some (f j))
    (hr : ∀ (j : Nat) c, (cd.enc te x)[j]? = some c → R1 P cd M Fz w c (f j)) : PurOk P cd M Fz w (loadVar t (at0 k (o + sub))) (partE P cd t te x sub) := by
  unfold partE
  split
  · rename_i cs hcs
    split
    · rename_i v hv
      have hl := z1ww ok (z19o ok te x) hcs
      rw [z1i ok] at hl
      have hlen := ok.len te x
      have hvs : ((List.range (P.cellsOf t)).map fun j => f (sub + j)).length = P.cellsOf t := by simp
      have hrl : RL P cd M Fz w cs ((List.range (P.cellsOf t)).map fun j => f (sub + j)) := by
        refine ⟨hl.2.1, ?_, ?_⟩
        · rw [hl.1]; simp; omega
        · intro j c v h1 h2
          rw [hl.1, List.getElem?_take] at h1
          split at h1
          · rename_i hj
            rw [List.getElem?_drop] at h1
            rw [List.getElem?_map, List.getElem?_range hj] at h2
            simp only [Option.map_some, Option.some.injEq] at h2
            subst h2
            exact hr _ c h1
          · cases h1
      have hce : ∀ (j : Nat) v, ((List.range (P.cellsOf t)).map fun j => f (sub + j))[j]? = some v → w.cell? (at0 k (o + sub + j)) = some v := by
        intro j v hj
        rw [List.getElem?_map] at hj
        by_cases hlt : j < P.cellsOf t
        · rw [List.getElem?_range hlt] at hj
          simp only [Option.map_some, Option.some.injEq] at hj
          subst hj
          have hlt2 : sub + j < (cd.enc te x).length := by omega
          have := hc (sub + j) _ (List.getElem?_eq_getElem hlt2)
          rwa [← Nat.add_assoc] at this
        · rw [List.getElem?_eq_none (by simp; omega)] at hj
          cases hj
      obtain ⟨y, h1, h2⟩ := zr0 hv hvs hrl hce
      exact .leaf h1 h2
    · exact .fail
  · exact .fail
theorem RowOk.elem {mk : Nat → Nat × Nat} (ok : CdOk P cd) {t k cap : Nat} {l : List (U t)} {cur : Array Value} (r : RowOk P cd M Fz w mk t l cap k cur) {i : Nat} {x : U t} (hx : l[i]? = some x) :
    ∃ f : Nat → Value, (∀ (j : Nat) c, (cd.enc t x)[j]? = some c → w.cell? (at0 k (i * P.cellsOf t + j)) = some (f j)) ∧ (∀ (j : Nat) c, (cd.enc t x)[j]? = some c → R1 P cd M Fz w c (f j)) := by
  refine ⟨fun j => cur.getD (i * P.cellsOf t + j) undef, fun j c hj => ?_, fun j c hj => ?_⟩
  · obtain ⟨v, h1, h2⟩ := r.cells _ c (z9y ok hx j c hj)
    simp only [zha r.heap, h1, Array.getD_eq_getD_getElem?, Option.getD_some]
  · obtain ⟨v, h1, h2⟩ := r.cells _ c (z9y ok hx j c hj)
    simp only [Array.getD_eq_getD_getElem?, h1, Option.getD_some]
    exact h2
theorem z18j {t te m : Nat} (h : manyOf P t te = some m) : ∃ n e, P.underlying t = some (.array n e) ∧ leafOf P 9 t = (te, m) ∧ P.cellsOf t = m * P.cellsOf te := by
  unfold manyOf at h
  split at h
  · rename_i n e hu
    rw [cond_eq_ite] at h
    split at h
    · rename_i hc
      simp only [Bool.and_eq_true] at hc
      injection h with h
      have h1 := Nat.eq_of_beq_eq_true hc.2
      have h2 := zje 9 t hc.1
      rw [h1, h] at h2
      exact ⟨n, e, hu, by rw [← h1, ← h], h2⟩
    · cases h
  · cases h
theorem z1o5 (ok : CdOk P cd) {cs : List (C U)} {arr : Array Value} (hr : RL P cd M Fz w cs arr.toList) {o te n : Nat} {l : List (U te)} (ha : atC P cs o = some (.arr te n l)) :
    RL P cd M Fz w [.arr te n l] (arr.extract o (o + n * P.cellsOf te)).toList ∧ l.length = n ∧ o + n * P.cellsOf te ≤ arr.size := by
  obtain ⟨h1, h2, h3⟩ := z22m ok hr.1 ha
  refine ⟨?_, h2 te n l (by simp), ?_⟩
  · refine hr.of_leaves o (n * P.cellsOf te) h2 ?_ (extract_toList ..)
    rw [show szC P (C.arr te n l) = n * P.cellsOf te from rfl] at h1
    rw [h1]
    simp [leaves]
  · rw [← hr.2.1] at h3
    simpa [szC] using h3
theorem RL.sub (ok : CdOk P cd) {te m n : Nat} {a : List (U te)} {vs : Array Value} (h : RL P cd M Fz w [.arr te n a] vs.toList) (i : Nat) (hi : i + m ≤ a.length) :
    RL P cd M Fz w [.arr te m ((a.drop i).take m)] (vs.extract (i * P.cellsOf te) (i * P.cellsOf te + m * P.cellsOf te)).toList := by
  refine h.of_leaves (i * P.cellsOf te) (m * P.cellsOf te) ?_ ?_ (extract_toList ..)
  · intro t k l hm
    simp at hm
    obtain ⟨rfl, rfl, hm⟩ := hm
    have := eq_of_heq hm
    subst this
    simp
    omega
  · rw [z1x, z1x, zja ok]
theorem z10s {t k o : Nat} : (Instr.loadAt t (.pointer (some (at0 k o)))).run P w = (loadVar t (at0 k o)).run P w := by
  simp only [Instr.loadAt, Instr.sureAddr, Sem.run_bind, Sem.run_pure, Result.andThen]
theorem z22a (ok : CdOk P cd) {hp : List (Blk U)} {id : Nat} (h : HR P cd M Fz hp w) (t : Nat) {x : V U} {vx : Value} (hx : RV P cd M Fz w x vx) : ValOk P cd M Fz w hp id (Instr.loadAt t vx) (loadK P cd t x) := by
  unfold loadK
  split
  · rename_i b o
    refine .lod h fun blk hb => ?_
    cases blk with
    | dead => exact .fail
    | row te v' l => exact .fail
    | mrow te v' l => exact .fail
    | cells cs =>
      simp only []
      split
      · rename_i r hr
        split
        · rename_i v hv
          cases hx with
          | ptr _ _ k hm =>
            obtain ⟨arr, e, hh, hrl⟩ := h.cells_at hb hm
            obtain ⟨h1, h2⟩ := hrl.cut ok hr
            have hl : ((arr.toList.drop o).take (P.cellsOf t)).length = P.cellsOf t := by simp; simp at h2; omega
            have hce : ∀ (j : Nat) y, ((arr.toList.drop o).take (P.cellsOf t))[j]? = some y → w.cell? (at0 k (o + j)) = some y := by
              intro j y hj
              rw [zha hh]
              rw [List.getElem?_take] at hj
              split at hj
              · rw [List.getElem?_drop] at hj
                simpa using hj
              · cases hj
            obtain ⟨y, h3, h4⟩ := zr0 hv hl h1 hce
            refine .leaf (v := y) ?_ h4
            rw [z10s]
            exact h3
        · exact .fail
      · exact .fail
  · rename_i b v i sub
    refine .lod h fun blk hb => ?_
    cases blk with
    | dead => exact .fail
    | cells cs => exact .fail
    | row te v' l =>
      simp only [cond_eq_ite]
      split
      · rename_i hc
        obtain rfl := Nat.eq_of_beq_eq_true hc
        refine .opt fun y hy => ?_
        cases hx with
        | elp _ _ _ _ pos t' ver len cap _ hm hle hsc hv =>
          obtain ⟨rfl, rfl, rfl, hpos⟩ := h.row_at hb hm
          obtain ⟨hi, k, rfl, rfl⟩ := hv rfl
          obtain ⟨cur, r⟩ := hpos
          obtain ⟨f, h1, h2⟩ := r.elem ok hy
          have := z10w ok (t := t) (sub := sub) (k := k) f h1 h2
          intro d hd
          obtain ⟨z, hz⟩ := this d hd
          refine ⟨z, ?_, hz.2⟩
          simp only [Instr.loadAt, Instr.sureAddr, Sem.run_bind, Sem.run_pure, Result.andThen]
          exact hz.1
      · exact .fail
    | mrow te v' l =>
      simp only [cond_eq_ite]
      split
      · rename_i hc
        obtain rfl := Nat.eq_of_beq_eq_true hc
        refine .opt fun y hy => ?_
        cases hx with
        | elp _ _ _ _ pos t' ver len cap _ hm hle hsc hv =>
          obtain ⟨rfl, rfl, rfl, hpos⟩ := h.mrow_at hb hm
          obtain ⟨hi, k, rfl, rfl⟩ := hv rfl
          obtain ⟨cur, r⟩ := hpos
          obtain ⟨f, h1, h2⟩ := r.elem ok hy
          have := z10w ok (t := t) (sub := sub) (k := k) f h1 h2
          intro d hd
          obtain ⟨z, hz⟩ := this d hd
          refine ⟨z, ?_, hz.2⟩
          simp only [Instr.loadAt, Instr.sureAddr, Sem.run_bind, Sem.run_pure, Result.andThen]
          exact hz.1
      · exact .fail
  · rename_i te x sub
    refine .pur h ?_
    cases hx with
    | xp _ _ _ k o f h1 h2 h3 =>
      have := z10w ok (t := t) (sub := sub) (k := k) f h2 h3
      intro d hd
      obtain ⟨z, hz⟩ := this d hd
      refine ⟨z, ?_, hz.2⟩
      simp only [Instr.loadAt, Instr.sureAddr, Sem.run_bind, Sem.run_pure, Result.andThen]
      exact hz.1
  · rename_i g o
    refine .pur h ?_
    split
    · rename_i r hr
      split
      · rename_i v hv
        cases hx with
        | gp _ _ =>
          have hrl0 : RL P cd M Fz w ((cd.gl g).map ofVal1) (cd.gl g) := by
            refine RL.of_plain ?_ (by simp) ?_
            · intro c hc t n l
              obtain ⟨v, _, rfl⟩ := List.mem_map.1 hc
              exact z18m v t n l
            · intro j c v h1 h2
              rw [List.getElem?_map, h2] at h1
              simp at h1
              subst h1
              exact z18n v
          obtain ⟨h1, h2⟩ := hrl0.cut ok hr
          have hl : (((cd.gl g).drop o).take (P.cellsOf t)).length = P.cellsOf t := by simp; omega
          have hce : ∀ (j : Nat) y, (((cd.gl g).drop o).take (P.cellsOf t))[j]? = some y → w.cell? (at0 g (o + j)) = some y := by
            intro j y hj
            rw [List.getElem?_take] at hj
            split at hj
            · rw [List.getElem?_drop] at hj
              exact (h.fz.gl g (o + j) y hj).2
            · cases hj
          obtain ⟨y, h3, h4⟩ := zr0 hv hl h1 hce
          refine .leaf (v := y) ?_ h4
          rw [z10s]
          exact h3
      · exact .fail
    · exact .fail
  · rename_i b o te i sub
    refine .lod h fun blk hb => ?_
    cases blk with
    | dead => exact .fail
    | row te v' l => exact .fail
    | mrow te v' l => exact .fail
    | cells cs =>
      simp only []
      split
      · rename_i t' n l hat
        rw [cond_eq_ite]
        split
        · rename_i hc
          obtain rfl := Nat.eq_of_beq_eq_true hc
          cases hx with
          | ap _ _ _ _ _ k hm =>
            obtain ⟨arr, e, hh, hrl⟩ := h.cells_at hb hm
            obtain ⟨hp1, hp2, hp3⟩ := z1o5 ok hrl hat
            split
            · rename_i m hmo
              rw [cond_eq_ite]
              split
              · rename_i hs0
                obtain rfl := Nat.eq_of_beq_eq_true hs0
                obtain ⟨n', e', hu, hlf, hce⟩ := z18j hmo
                refine .ite (fun hle => ?_) fun _ => .fail
                have hle := of_decide_eq_true hle
                have hs := hp1.sub ok i hle
                have hag : isAggB P t = true := by simp [isAggB, hu]
                have hsz : ((arr.extract o (o + n * P.cellsOf t')).extract (i * P.cellsOf t') (i * P.cellsOf t' + m * P.cellsOf t')).toList.length = P.cellsOf t := by
                  have := hs.2.1
                  rw [z1x, z1p ok] at this
                  rw [this, hce, List.length_take, List.length_drop, Nat.min_eq_left (by omega)]
                have hcell : ∀ (j : Nat) y, ((arr.extract o (o + n * P.cellsOf t')).extract (i * P.cellsOf t') (i * P.cellsOf t' + m * P.cellsOf t')).toList[j]? = some y → w.cell? (at0 k (o + i * P.cellsOf t' + j)) = some y := by
                  intro j y hj
                  rw [zha hh]
                  simp only [Array.getElem?_toList, Array.getElem?_extract] at hj
                  split at hj
                  · split at hj
                    · rw [← Nat.add_assoc] at hj; exact hj
                    · cases hj
                  · cases hj
                obtain ⟨y, h3, h4⟩ := zr0 (v := .agg [.arr t' m ((l.drop i).take m)]) (by simp [mkV, hu, hag]) hsz hs hcell
                refine .leaf (v := y) ?_ h4
                rw [Nat.add_zero, z10s]
                exact h3
              · exact .fail
            · refine .opt fun y hy => ?_
              have := z10w (w := w) (M := M) (Fz := Fz) ok (t := t) (sub := sub) (k := k) (o := o + i * P.cellsOf t') (x := y) (fun j => arr.getD (o + i * P.cellsOf t' + j) undef) ?_ ?_
              · intro d hd
                obtain ⟨z, hz⟩ := this d hd
                exact ⟨z, by rw [z10s]; exact hz.1, hz.2⟩
              · intro j c hj
                rw [zha hh]
                have hlt : o + i * P.cellsOf t' + j < arr.size := by
                  have h1 := (List.getElem?_eq_some_iff.1 (z9y ok hy j c hj)).1
                  rw [z1p ok, hp2] at h1
                  omega
                simp [hlt]
              · intro j c hj
                have he := z9y ok hy j c hj
                have h1 := (List.getElem?_eq_some_iff.1 he).1
                rw [z1p ok, hp2] at h1
                have hlt : o + (i * P.cellsOf t' + j) < arr.size := by omega
                refine hp1.2.2 (i * P.cellsOf t' + j) c _ (by rw [z1x]; exact he) ?_
                simp only [Array.getElem?_toList, Array.getElem?_extract]
                rw [if_pos (by omega)]
                have hlt' : o + i * P.cellsOf t' + j < arr.size := by omega
                simp [hlt', ← Nat.add_assoc]
        · exact .fail
      · exact .fail
  · exact .fail

/-! ### elements of strings and of arrays' values -/
theorem z1yt (s : List UInt8) (i : Nat) : (⟨s.toArray⟩ : ByteArray)[i]? = s[i]? := by
  have h1 : (⟨s.toArray⟩ : ByteArray).size = s.length := by simp [ByteArray.size]
  by_cases h : i < s.length
  · rw [List.getElem?_eq_getElem h, getElem?_pos _ i (by rw [h1]; exact h)]
    rfl
  · rw [List.getElem?_eq_none (by omega), getElem?_neg _ i (by rw [h1]; omega)]
theorem z21b {t o : Nat} {cs : List (C U)} {v : V U} {a : Array Value} (hm : mkV P t cs = some v) (hr : RL P cd M Fz w cs (a.extract o (o + P.cellsOf t)).toList) :
    ∃ x, (part t a o).run P w = .ok x w ∧ RV P cd M Fz w v x := by
  obtain ⟨d, hd, ⟨ha, rfl⟩ | ⟨ha, c, rfl, rfl, hk⟩⟩ := z1tb hm
  · refine ⟨.agg (a.extract o (o + P.cellsOf t)), ?_, _, rfl, hr⟩
    simp only [part, Sem.run_bind, zf1 hd, Result.andThen, ha, if_true, z82 hd]
    rfl
  · obtain ⟨x, hx, hx'⟩ := RL.single hr hk
    refine ⟨x, ?_, hx'⟩
    have hcell : a[o]? = some x := by
      have : (a.extract o (o + P.cellsOf t)).toList[0]? = some x := by rw [hx]; rfl
      simp only [Array.getElem?_toList, Array.getElem?_extract] at this
      split at this
      · simpa using this
      · cases this
    simp only [part, Sem.run_bind, zf1 hd, Result.andThen, ha]
    simp [hcell]
theorem z20z (ok : CdOk P cd) (t : Nat) {x i : V U} {vx vi : Value} (hx : RV P cd M Fz w x vx) (hi : RV P cd M Fz w i vi) : ∃ tr, indexK P cd t x i = .pur tr ∧ PurOk P cd M Fz w (Instr.index t vx vi) tr := by
  unfold indexK
  split
  · rename_i s k i
    obtain rfl := R1.int_inv hi
    obtain rfl := R1.str_inv hx
    refine ⟨_, rfl, ?_⟩
    split
    · rename_i hu
      refine z1ra fun h0 y hy => .one (v := .int .u8 y.toNat) ?_ (.int _ _)
      simp only [Instr.index, asIntOf, Sem.run_bind, Sem.run_pure, Result.andThen, run_underlying hu, if_pos h0, z1yt, hy]
    · exact .fail
  · rename_i te m l k i
    obtain rfl := R1.int_inv hi
    obtain ⟨a, rfl, ra⟩ := hx
    split
    · rename_i n e hu
      have hm : l.length = m := ra.1 te m l (by simp)
      have hsz : a.size = l.length * P.cellsOf te := by
        have := ra.2.1
        rw [z1x, z1p ok] at this
        simpa using this
      rw [cond_eq_ite]
      split
      · rename_i hok
        obtain ⟨⟨td, htd⟩, hce, hae⟩ := z10a hok hu
        refine ⟨_, rfl, ?_⟩
        split
        · rename_i m' hmo
          obtain ⟨n', e', hu', hlf, hce'⟩ := z18j hmo
          refine .ite (fun h0 => .ite (fun h1 => .ite (fun h2 => ?_) fun _ => .fail) fun _ => .fail) fun _ => .fail
          have h0 := of_decide_eq_true h0
          have h1 := of_decide_eq_true h1
          have h2 := of_decide_eq_true h2
          have hs := ra.sub ok (m := m') (i.toNat * m') h2
          have hag : isAggB P e = true := by simp [isAggB, hu']
          refine .leaf (v := .agg (a.extract (i.toNat * m' * P.cellsOf te) (i.toNat * m' * P.cellsOf te + m' * P.cellsOf te))) ?_ ⟨_, rfl, hs⟩
          simp only [Instr.index, asIntOf, Sem.run_bind, Sem.run_pure, Result.andThen, run_underlying hu, if_pos (And.intro h0 h1), part, zf1 htd, z82 htd, hag, if_true, hce', Nat.mul_assoc]
        · refine .ite (fun h0 => .ite (fun h1 => ?_) fun _ => .fail) fun _ => .fail
          have h0 := of_decide_eq_true h0
          have h1 := of_decide_eq_true h1
          rw [cond_eq_ite]
          split
          · rename_i hsz'
            have hsz' := Nat.eq_of_beq_eq_true hsz'
            refine .opt fun y hy => ?_
            have hcut : ∀ (j : Nat) c, (cd.enc te y)[j]? = some c → ∃ v, a[i.toNat * P.cellsOf te + j]? = some v ∧ R1 P cd M Fz w c v := by
              intro j c hj
              have he := z9y ok hy j c hj
              have hlt := (List.getElem?_eq_some_iff.1 he).1
              rw [z1p ok] at hlt
              have hlt' : i.toNat * P.cellsOf te + j < a.size := by omega
              exact ⟨_, Array.getElem?_eq_getElem hlt', ra.2.2 _ c _ (by rw [z1x]; exact he) (by simp [hlt'])⟩
            have hlt : i.toNat < l.length := (List.getElem?_eq_some_iff.1 hy).1
            have hbound : i.toNat * P.cellsOf te + P.cellsOf te ≤ a.size := by
              rw [hsz, ← Nat.succ_mul]
              exact Nat.mul_le_mul_right _ hlt
            have hrl : RL P cd M Fz w (cd.enc te y) (a.extract (i.toNat * P.cellsOf te) (i.toNat * P.cellsOf te + P.cellsOf te)).toList := by
              refine ⟨z19o ok te y, ?_, ?_⟩
              · rw [z1i ok, ok.len]; simp; omega
              · intro j c v h1 h2
                rw [z1i ok] at h1
                obtain ⟨v', h3, h4⟩ := hcut j c h1
                simp only [Array.getElem?_toList, Array.getElem?_extract] at h2
                split at h2
                · rw [h3] at h2; injection h2 with h2; subst h2; exact h4
                · cases h2
            unfold partE
            split
            · rename_i cs hcs
              split
              · rename_i v hv
                have hcc := (hrl.cut ok hcs).1
                rw [List.drop_zero, List.take_of_length_le (by simp; omega)] at hcc
                rw [hsz'] at hcc
                obtain ⟨z, h3, h4⟩ := z21b hv hcc
                refine .leaf (v := z) ?_ h4
                simp only [Instr.index, asIntOf, Sem.run_bind, Sem.run_pure, Result.andThen, run_underlying hu, if_pos (And.intro h0 h1), z82 htd]
                exact h3
              · exact .fail
            · exact .fail
          · exact .fail
      · exact ⟨_, rfl, .fail⟩
    · exact ⟨_, rfl, .fail⟩
  · exact ⟨_, rfl, .fail⟩
end
end Go.Ab
end
section
set_option linter.unusedSimpArgs false
namespace Go.Ab
variable {U : Nat → Type}
section
variable {P : Program} {cd : Cd U} {M M' : Mp} {Fz Fz' : Nat → Prop} {w w' : World}

/-! ### lengths -/
theorem z22w {hp : List (Blk U)} {id : Nat} (h : HR P cd M Fz hp w) (t ty : Nat) {x : V U} {vx : Value} (hx : RV P cd M Fz w x vx) :
    ValOk P cd M Fz w hp id (Builtin.len_ #[t] ty #[vx]) (lenK P t x) := by
  unfold lenK
  split
  · rename_i hu
    split
    · rename_i s
      obtain rfl := R1.str_inv hx
      refine .pur h (.one (v := .int .i64 s.length) ?_ (.int _ _))
      have : (⟨s.toArray⟩ : ByteArray).size = s.length := by simp [ByteArray.size]
      simp [Builtin.len_, run_underlying hu, Result.andThen, goInt, this]
    · exact .fail
  · rename_i n e hu
    refine .pur h (.one (v := .int .i64 n) ?_ (.int _ _))
    simp [Builtin.len_, run_underlying hu, Result.andThen, goInt]
  · rename_i e hu
    have run : ∀ a n c, (Builtin.len_ #[t] ty #[.slice a n c]).run P w = .ok (.int .i64 n) w := by
      intro a n c
      simp [Builtin.len_, run_underlying hu, Result.andThen, goInt]
    split
    · obtain ⟨a, c, rfl, _, _⟩ := R1.sl_form hx
      exact .pur h (.one (run _ _ _) (.int _ _))
    · cases hx
      exact .pur h (.one (run _ _ _) (.int _ _))
    · cases hx
      exact .pur h (.one (run _ _ _) (.int _ _))
    · refine .lod h fun blk hb => ?_
      cases blk with
      | dead => exact .fail
      | cells cs => exact .fail
      | mrow te v' l => exact .fail
      | row te v' l =>
        simp only [cond_eq_ite]
        split
        · rename_i hc
          obtain rfl := Nat.eq_of_beq_eq_true hc
          cases hx with
          | own _ _ _ _ pos t' ver len cap _ hm hle hsc hv =>
            obtain ⟨rfl, rfl, rfl, hpos⟩ := h.row_at hb hm
            obtain ⟨hlo, a, c, rfl, hnc, ha⟩ := hv rfl
            exact .one (run _ _ _) (.int _ _)
        · exact .fail
    · refine .lod h fun blk hb => ?_
      cases blk with
      | dead => exact .fail
      | cells cs => exact .fail
      | row te v' l =>
        simp only [cond_eq_ite]
        split
        · rename_i hc
          obtain rfl := Nat.eq_of_beq_eq_true hc
          cases hx with
          | row _ _ pos t' ver len cap _ hm hle hsc hv =>
            obtain ⟨rfl, rfl, rfl, hpos⟩ := h.row_at hb hm
            have hv := hv rfl
            cases pos with
            | none =>
              obtain ⟨a, rfl⟩ := hv
              have hpos : l = [] := hpos
              subst hpos
              exact .one (run _ _ _) (.int _ _)
            | some k =>
              have hv : _ = _ := hv
              subst hv
              exact .one (run _ _ _) (.int _ _)
        · exact .fail
      | mrow te v' l =>
        simp only [cond_eq_ite]
        split
        · rename_i hc
          obtain rfl := Nat.eq_of_beq_eq_true hc
          cases hx with
          | row _ _ pos t' ver len cap _ hm hle hsc hv =>
            obtain ⟨rfl, rfl, rfl, hpos⟩ := h.mrow_at hb hm
            have hv := hv rfl
            cases pos with
            | none =>
              obtain ⟨a, rfl⟩ := hv
              have hpos : l = [] := hpos
              subst hpos
              exact .one (run _ _ _) (.int _ _)
            | some k =>
              have hv : _ = _ := hv
              subst hv
              exact .one (run _ _ _) (.int _ _)
        · exact .fail
    · exact .fail
  · exact .fail
theorem z18k (mx : Bool) : ∀ (l : List (V U)) (x : V U) (vx : Value) (vs : List Value), RV P cd M Fz w x vx → RVs P cd M Fz w l vs →
    PurOk P cd M Fz w (vs.foldlM (if mx then Builtin.max2 else Builtin.min2) vx) (minmax mx x l)
  | [], x, vx, vs, hx, hl => by
    have : vs = [] := List.length_eq_zero_iff.1 (by simpa using hl.1)
    subst this
    simp only [minmax, List.foldlM_nil]
    exact .leaf rfl hx
  | y :: l, x, vx, vs, hx, hl => by
    match vs, hl with
    | vy :: vs, hl =>
      have hy : RV P cd M Fz w y vy := hl.2 0 y vy rfl rfl
      have hr : RVs P cd M Fz w l vs := ⟨by simpa using hl.1, fun j x v h1 h2 => hl.2 (j + 1) x v (by simpa using h1) (by simpa using h2)⟩
      by_cases hk : ∃ k a k' b, x = .one (.int k a) ∧ y = .one (.int k' b)
      · obtain ⟨k, a, k2, b, rfl, rfl⟩ := hk
        by_cases hkk : k = k2
        · subst hkk
          obtain rfl := R1.int_inv hx
          obtain rfl := R1.int_inv hy
          have ih := z18k mx l (.one (.int k (bif mx then (if b > a then b else a) else (if b < a then b else a)))) _ vs (R1.int _ _) hr
          simp only [minmax, decide_true, cond_true]
          intro d hd
          obtain ⟨v, h1, h2⟩ := ih d hd
          refine ⟨v, ?_, h2⟩
          rw [List.foldlM_cons]
          simp only [Sem.run_bind]
          have : ((if mx then Builtin.max2 else Builtin.min2) (.int k a) (.int k b)).run P w = .ok (.int k (bif mx then (if b > a then b else a) else (if b < a then b else a))) w := by
            cases mx <;> simp [Builtin.max2, Builtin.min2]
          rw [this]
          exact h1
        · have : minmax mx (.one (.int k a)) (.one (.int k2 b) :: l) = .fail := by simp [minmax, hkk]
          rw [this]
          exact .fail
      · have : minmax mx x (y :: l) = .fail := by
          unfold minmax
          split
          · rename_i e; cases e
          · rename_i e; simp only [List.cons.injEq] at e; exact absurd ⟨_, _, _, _, rfl, e.1⟩ hk
          · rfl
        rw [this]
        exact .fail

/-! ### slices of slices -/
def RO (P : Program) (cd : Cd U) (M : Mp) (Fz : Nat → Prop) (w : World) : Option (D U) → Option Value → Prop
  | none, none => True
  | some d, some v => RD P cd M Fz w d v
  | _, _ => False
theorem zmy {o : Option (D U)} {v : Option Value} {r : Option Int} (h : bound o = some r) (ho : RO P cd M Fz w o v) : (r = none ∧ v = none) ∨ ∃ k i, r = some i ∧ v = some (.int k i) := by
  unfold bound at h
  split at h
  · cases v with
    | none => simp at h; exact .inl ⟨h.symm, rfl⟩
    | some v => exact ho.elim
  · rename_i k i
    cases v with
    | none => exact ho.elim
    | some v =>
      simp only [Option.some.injEq] at h
      obtain rfl := R1.int_inv ho
      exact .inr ⟨k, i, h.symm, rfl⟩
  · cases h
theorem zf3 (k : IntKind) (i : Int) (y : Nat) (c : BoundsCode) (h0 : 0 ≤ i) (h1 : i ≤ y) : (Instr.sliceBound (.int k i) y c).run P w = .ok i.toNat w := by
  simp [Instr.sliceBound, asIntOf, h0, h1, Result.andThen]
theorem zyl {x : Sem Value} {n cap : Nat} {lo hi : Option (D U)} {l h : Option Int} {vlo vhi : Option Value} (hn : n ≤ cap) (isS : Bool) (hl : bound lo = some l) (hh : bound hi = some h)
    (rl : RO P cd M Fz w lo vlo) (rh : RO P cd M Fz w hi vhi) {f : Nat → Nat → Tree (D U)}
    (hf : ∀ a b, a ≤ b → b ≤ n → (Instr.sliceBounds isS n cap vlo vhi none).run P w = .ok (a, b, cap) w → PurOk P cd M Fz w x (f a b)) : PurOk P cd M Fz w x (cutT n l h f) := by
  have hz : ∀ i : Int, i ≤ (n : Int) → i ≤ (cap : Int) := fun i hi => by omega
  unfold cutT
  rcases zmy hl rl with ⟨rfl, rfl⟩ | ⟨k1, i1, rfl, rfl⟩
  · rcases zmy hh rh with ⟨rfl, rfl⟩ | ⟨k2, i2, rfl, rfl⟩
    · exact hf 0 n (by omega) (by omega) (by simp [Instr.sliceBounds, Result.andThen])
    · refine .ite (fun h0 => .ite (fun h1 => ?_) fun _ => .fail) fun _ => .fail
      have h0 := of_decide_eq_true h0
      have h1 := of_decide_eq_true h1
      refine hf 0 i2.toNat (by omega) (by omega) ?_
      simp only [Instr.sliceBounds, Sem.run_bind, Sem.run_pure, Result.andThen, zf3 k2 i2 cap _ h0 (hz _ h1)]
  · rcases zmy hh rh with ⟨rfl, rfl⟩ | ⟨k2, i2, rfl, rfl⟩
    · refine .ite (fun h0 => .ite (fun h1 => ?_) fun _ => .fail) fun _ => .fail
      have h0 := of_decide_eq_true h0
      have h1 := of_decide_eq_true h1
      refine hf i1.toNat n (by omega) (by omega) ?_
      simp only [Instr.sliceBounds, Sem.run_bind, Sem.run_pure, Result.andThen, zf3 k1 i1 n _ h0 h1]
    · refine .ite (fun h0 => .ite (fun h1 => .ite (fun h2 => .ite (fun h3 => ?_) fun _ => .fail) fun _ => .fail) fun _ => .fail) fun _ => .fail
      have h0 := of_decide_eq_true h0
      have h1 := of_decide_eq_true h1
      have h2 := of_decide_eq_true h2
      have h3 := of_decide_eq_true h3
      refine hf i1.toNat i2.toNat (by omega) (by omega) ?_
      simp only [Instr.sliceBounds, Sem.run_bind, Sem.run_pure, Result.andThen, zf3 k2 i2 cap _ h0 (hz _ h1), zf3 k1 i1 i2.toNat _ h2 (by omega)]
theorem zu1 {t e : Nat} {td : TypeDesc} (hu : P.underlying t = some (.slice e)) (he : P.underlying e = some td) {ad : Option Addr} {n cap a b : Nat} {vlo vhi : Option Value}
    (h : (Instr.sliceBounds true n cap vlo vhi none).run P w = .ok (a, b, cap) w) :
    (Instr.sliceAt t (.slice ad n cap) vlo vhi none).run P w = .ok (.slice (if cap = a then ad else ad.map (·.add (a * P.cellsOf e))) (b - a) (cap - a)) w := by
  simp only [Instr.sliceAt, Sem.run_bind, run_underlying hu, Result.andThen, Instr.slice, h, z82 he, Sem.run_pure]
theorem z21h (ok : CdOk P cd) {hp : List (Blk U)} {id : Nat} (h : HR P cd M Fz hp w) (t : Nat) {x : V U} {vx : Value} (hx : RV P cd M Fz w x vx) {lo hi : Option (D U)} {vlo vhi : Option Value}
    (rl : RO P cd M Fz w lo vlo) (rh : RO P cd M Fz w hi vhi) : ValOk P cd M Fz w hp id (Instr.sliceAt t vx vlo vhi none) (sliceK P t x lo hi) := by
  unfold sliceK
  split
  · rename_i l hh hl1 hl2
    split
    · rename_i s
      obtain rfl := R1.str_inv hx
      refine .pur h ?_
      split
      · rename_i hu
        refine zyl (cap := s.length) (Nat.le_refl _) false hl1 hl2 rl rh fun a b hab hbn hr => ?_
        refine .one (v := .string ⟨((s.drop a).take (b - a)).toArray⟩) ?_ (.str _)
        have hz : (⟨s.toArray⟩ : ByteArray).size = s.length := by simp [ByteArray.size]
        simp only [Instr.sliceAt, Sem.run_bind, run_underlying hu, Result.andThen, Instr.slice, Option.isSome_none, Bool.false_eq_true, if_false, Sem.run_pure, hz, hr]
        congr 2
        apply ByteArray.ext
        simp [ByteArray.data_extract, List.extract_eq_take_drop]
      · exact .fail
    · rename_i te s full
      refine .pur h ?_
      rw [cond_eq_ite]
      split
      · rename_i hs
        obtain ⟨hu, td, htd⟩ := zf2 hs
        cases hx with
        | sl _ _ _ ad cap g h1 h0 h2 h3 =>
          refine zyl h0 true hl1 hl2 rl rh fun a b hab hbn hr => ?_
          have hlen : ((s.drop a).take (b - a)).length = b - a := by simp; omega
          refine .one (zu1 hu htd hr) ?_
          have hrow : ∀ (j : Nat) c, (((s.drop a).take (b - a)).flatMap (cd.enc te))[j]? = some c → (s.flatMap (cd.enc te))[a * P.cellsOf te + j]? = some c := by
            intro j c hj
            rw [zja ok, List.getElem?_take] at hj
            split at hj
            · rwa [List.getElem?_drop] at hj
            · cases hj
          have := R1.sl (P := P) (cd := cd) (M := M) (Fz := Fz) (w := w) te ((s.drop a).take (b - a)) false (if cap = a then ad else ad.map (·.add (a * P.cellsOf te))) (cap - a) (fun j => g (a * P.cellsOf te + j))
            (fun e => by cases e) (by rw [hlen]; omega) ?_ (fun j c hj => h3 _ c (hrow j c hj))
          · rw [hlen] at this
            exact this
          · intro hne
            have hlt : a < b := by
              rcases Nat.lt_or_ge a b with hh | hh
              · exact hh
              · exact absurd (List.length_eq_zero_iff.1 (by rw [hlen]; omega)) hne
            obtain ⟨k, o, rfl, hk, hc⟩ := h2 (by intro e; subst e; simp at hbn; omega)
            refine ⟨k, o + a * P.cellsOf te, ?_, hk, fun j c hj => ?_⟩
            · rw [if_neg (by omega)]
              simp [add0]
            · rw [Nat.add_assoc]
              exact hc _ c (hrow j c hj)
      · exact .fail
    · rename_i b v
      refine .lod h fun blk hb => ?_
      cases blk with
      | dead => exact .fail
      | cells cs => exact .fail
      | mrow te v' s => exact .fail
      | row te v' s =>
        simp only [cond_eq_ite]
        split
        · rename_i hc
          simp only [Bool.and_eq_true] at hc
          obtain ⟨hu, td, htd⟩ := zf2 hc.1
          obtain rfl := Nat.eq_of_beq_eq_true hc.2
          cases hx with
          | row _ _ pos t' ver len cap _ hm hle hsc hv =>
            obtain ⟨rfl, rfl, rfl, hpos⟩ := h.row_at hb hm
            have hv := hv rfl
            cases pos with
            | none =>
              obtain ⟨ad, rfl⟩ := hv
              have hpos : s = [] := hpos
              subst hpos
              refine zyl (cap := 0) (Nat.le_refl _) true hl1 hl2 rl rh fun a c hac hcn hr => ?_
              refine .one (zu1 hu htd hr) ?_
              have : c = 0 := by simpa using hcn
              subst this
              exact .own b _ a _ _ _ _ _ cap _ hm (Nat.le_refl _) rfl fun _ => ⟨by omega, _, _, rfl, by omega, fun hz => by omega⟩
            | some k =>
              have hv : _ = _ := hv
              subst hv
              obtain ⟨cur, r⟩ := hpos
              refine zyl r.le true hl1 hl2 rl rh fun a c hac hcn hr => ?_
              refine .one (zu1 hu htd hr) ?_
              refine .own b _ a _ _ _ _ _ cap _ hm (Nat.le_refl _) rfl fun _ => ⟨by omega, _, _, rfl, by have := r.le; omega, fun hz => ⟨k, rfl, ?_⟩⟩
              have := r.le
              rw [if_neg (by omega)]
              simp [add0]
        · exact .fail
    · rename_i b v o n
      refine .lod h fun blk hb => ?_
      cases blk with
      | dead => exact .fail
      | cells cs => exact .fail
      | mrow te v' s => exact .fail
      | row te v' s =>
        simp only [cond_eq_ite]
        split
        · rename_i hc
          simp only [Bool.and_eq_true] at hc
          obtain ⟨hu, td, htd⟩ := zf2 hc.1
          obtain rfl := Nat.eq_of_beq_eq_true hc.2
          cases hx with
          | own _ _ _ _ pos t' ver len cap _ hm hle hsc hv =>
            obtain ⟨rfl, rfl, rfl, hpos⟩ := h.row_at hb hm
            obtain ⟨hlo, ad, cc, rfl, hnc, ha⟩ := hv rfl
            refine zyl hnc true hl1 hl2 rl rh fun a c hac hcn hr => ?_
            refine .one (zu1 hu htd hr) ?_
            refine .own b _ (o + a) _ _ _ _ _ cap _ hm (Nat.le_refl _) rfl fun _ => ⟨by omega, _, _, rfl, by omega, fun hz => ?_⟩
            obtain ⟨k, hk, rfl⟩ := ha (by omega)
            refine ⟨k, hk, ?_⟩
            rw [if_neg (by omega)]
            simp [add0, Nat.add_mul]
        · exact .fail
    · rename_i b o
      split
      · rename_i n e hu
        have e1 := zmy hl1 rl
        have e2 := zmy hl2 rh
        rcases e1 with ⟨_, rfl⟩ | ⟨_, _, e1, _⟩
        · rcases e2 with ⟨_, rfl⟩ | ⟨_, _, e2, _⟩
          · refine .lod h fun blk hb => ?_
            cases blk with
            | dead => exact .fail
            | row te v' s => exact .fail
            | mrow te v' s => exact .fail
            | cells cs tg =>
              simp only
              split
              · rename_i t' m l hat
                rw [cond_eq_ite]
                split
                · rename_i hc
                  simp only [Bool.and_eq_true] at hc
                  obtain rfl := Nat.eq_of_beq_eq_true hc.1
                  obtain ⟨td, htd⟩ := Option.isSome_iff_exists.1 hc.2
                  cases hx with
                  | ptr _ _ kk hm =>
                    refine .one (v := .slice (some (at0 kk o)) n n) ?_ (.asl b o _ n kk n hm (Nat.le_refl _))
                    have hb0 : (Instr.sliceBounds false n n none none none).run P w = .ok (0, n, n) w := by simp [Instr.sliceBounds, Result.andThen]
                    simp only [Instr.sliceAt, Instr.sureAddr, Sem.run_bind, run_underlying hu, Result.andThen, hb0, z82 htd, Sem.run_pure, Nat.sub_zero, Nat.zero_mul, add0, Nat.add_zero, ite_self]
                · exact .fail
              · exact .fail
          · cases e2
        · cases e1
      · exact .pur h .fail
    · exact .fail
  · exact .fail
end
end Go.Ab
end
section
set_option linter.unusedSimpArgs false
namespace Go.Ab
variable {U : Nat → Type}
section
variable {P : Program} {cd : Cd U} {M M' : Mp} {Fz Fz' : Nat → Prop} {w w' : World}

theorem z17x {t te : Nat} (h : byteSl P t te = true) : P.underlying te = some (.int .u8) ∧ P.underlying t = some (.slice te) := by
  unfold byteSl at h
  split at h
  · rename_i hu; exact ⟨hu, (zf2 h).1⟩
  · cases h
theorem zh9 {src dst te : Nat} (hb : byteSl P src te = true) (hd : P.underlying dst = some .string) (ns : List Int) (a : Option Addr) (n c : Nat) (hn : ns.length = n)
    (h : 0 < n → ∃ k o, a = some (at0 k o) ∧ ∀ i, i < n → w.cell? (at0 k (o + i)) = some (.int .u8 (ns.getD i 0))) :
    (convert src dst (.slice a n c)).run P w = .ok (.string ⟨(ns.map fun n => UInt8.ofNat n.toNat).toArray⟩) w := by
  obtain ⟨he, hs⟩ := z17x hb
  rcases Nat.eq_zero_or_pos n with h0 | h0
  · subst h0
    have : ns = [] := List.length_eq_zero_iff.1 hn
    subst this
    cases a with
    | none => exact run_convert_bytes_nil w src te hs he 0 c dst hd
    | some ad =>
      obtain ⟨k, o, sp⟩ := ad
      cases sp with
      | none => exact run_convert_bytes_arg w src te hs he k o 0 c [] rfl (fun i hi => by omega) dst hd
      | some s =>
        rw [run_convert_bytes_string w src dst te _ 0 c hs he hd]
        simp [Conv.bytesToString, loadCells, loadCellsFrom, Result.andThen]
        rfl
  · obtain ⟨k, o, rfl, hc⟩ := h h0
    exact run_convert_bytes_arg w src te hs he k o n c ns hn hc dst hd
theorem zmb (ok : CdOk P cd) {t : Nat} {l : List (U t)} {s : List UInt8} (h : cd.bytes t l = some s) : ∃ ns : List Int, ns.length = l.length ∧ s = ns.map (fun n => UInt8.ofNat n.toNat) ∧
    ∀ i, i < l.length → (l.flatMap (cd.enc t))[i]? = some (.int .u8 (ns.getD i 0)) := by
  obtain ⟨h1, ns, h2, h3⟩ := ok.bytes t l s h
  have hl : ns.length = l.length := by
    have := z1p ok t l
    rw [h2, h1] at this
    simpa using this
  refine ⟨ns, hl, h3, fun i hi => ?_⟩
  rw [h2, List.getElem?_map, List.getD_eq_getElem?_getD, List.getElem?_eq_getElem (by omega : i < ns.length)]
  rfl
theorem RB.grow {b : Nat} {x : Blk U} (h : RB P cd M Fz w b x) (hf : Frz Fz w Fz' w') (hold : ∀ k i, M b = some i → i.blk = some k → w'.heap[k]? = w.heap[k]?) : RB P cd M Fz' w' b x := by
  cases x with
  | dead => exact h
  | cells cs =>
    obtain ⟨k, arr, el, h1, h2, h3⟩ := h
    exact ⟨k, arr, el, h1, by rw [hold k _ h1 rfl]; exact h2, h3.mono (.refl _) hf⟩
  | row t ver l =>
    obtain ⟨pos, cap, h1, h2⟩ := h
    refine ⟨pos, cap, h1, ?_⟩
    cases pos with
    | none => exact h2
    | some k =>
      obtain ⟨cur, r⟩ := h2
      refine ⟨cur, ⟨by rw [hold k _ h1 rfl]; exact r.heap, r.le, r.max, r.size, fun j c' hj => ?_⟩⟩
      obtain ⟨v, h3, h4⟩ := r.cells j c' hj
      exact ⟨v, h3, h4.mono (.refl _) hf⟩
  | mrow t ver l =>
    obtain ⟨pos, cap, h1, h2⟩ := h
    refine ⟨pos, cap, h1, ?_⟩
    cases pos with
    | none => exact h2
    | some k =>
      obtain ⟨cur, r⟩ := h2
      refine ⟨cur, ⟨by rw [hold k _ h1 rfl]; exact r.heap, r.le, r.max, r.size, fun j c' hj => ?_⟩⟩
      obtain ⟨v, h3, h4⟩ := r.cells j c' hj
      exact ⟨v, h3, h4.mono (.refl _) hf⟩
theorem HR.moreD {hp : List (Blk U)} (h : HR P cd M Fz hp w) : HR P cd M Fz (hp ++ [.dead]) w := by
  refine ⟨fun b x hx => ?_, fun b hb => h.out b (by simp at hb; omega), h.inj, h.apart, h.fz, h.lt⟩
  rcases Nat.lt_or_ge b hp.length with hb | hb
  · rw [List.getElem?_append_left hb] at hx
    exact h.blk b x hx
  · rw [List.getElem?_append_right hb] at hx
    have hd : x = .dead := by
      rcases Nat.eq_zero_or_pos (b - hp.length) with h0 | h0
      · rw [h0] at hx; exact (Option.some.inj hx).symm
      · rw [List.getElem?_eq_none (by simp; omega)] at hx; cases hx
    subst hd
    exact h.out b hb
theorem HR.fresh {hp : List (Blk U)} (h : HR P cd M Fz hp w) {id : Nat} (hid : hp[id]? = some .dead) {x' : Blk U} {i' : Inf} {w' : World} (hsz : w.heap.size ≤ w'.heap.size) (hold : ∀ k, k < w.heap.size → w'.heap[k]? = w.heap[k]?)
    (hnew : ∀ k, i'.blk = some k → k < w'.heap.size ∧ w.heap.size ≤ k) (hx : Ext M (upd M id (some i')) → Frz Fz w Fz w' → RB P cd (upd M id (some i')) Fz w' id x') (hos : w'.os = w.os) (htape : w'.tape = w.tape) (hout : w'.output = w.output) {d : D U} {v : Value}
    (hd : Ext M (upd M id (some i')) → Frz Fz w Fz w' → RD P cd (upd M id (some i')) Fz w' d v) : Post P cd M Fz w d (hp.set id x') v w' := by
  have hM : M id = none := h.blk id _ hid
  have hlt : id < hp.length := (List.getElem?_eq_some_iff.1 hid).1
  have hle : ∀ i, M id = some i → Inf.Le i i' := fun i hi => by rw [hM] at hi; cases hi
  have he : Ext M (upd M id (some i')) := zym hle
  have hf : Frz Fz w Fz w' := fun k hk => ⟨hk, hold k (h.frz k hk)⟩
  obtain ⟨h1, h2, h3⟩ := h.update (w' := w') id x' i' hlt hle hsz (fun k hk _ => hold k hk) (fun k hk => ⟨(hnew k hk).1, .inr (hnew k hk).2⟩) (hx he hf)
  refine ⟨_, Fz, hd he hf, h1, h2, h3, ⟨hos, htape, hout, hsz, fun k hk _ => hold k hk⟩, ?_, fun k hk => .inl hk⟩
  rintro k ⟨b, i, hb, hk⟩
  by_cases e : b = id
  · subst e
    rw [z1w] at hb
    injection hb with hb
    subst hb
    exact .inr (hnew k hk).2
  · rw [z4j _ _ e] at hb
    exact .inl ⟨b, i, hb, hk⟩
theorem z216 (ok : CdOk P cd) {hp : List (Blk U)} (h : HR P cd M Fz hp w) {src dst e : Nat} (hs : P.underlying src = some .string) (hb : byteSl P dst e = true) (hce : P.cellsOf e = 1) (s : List UInt8) {m : List (U e)} (hm : cd.ofBytes e s = some m) (hsz : m.length ≤ 140737488355328) :
    ∃ v w', (convert src dst (.string ⟨s.toArray⟩)).run P w = .ok v w' ∧ Post P cd M Fz w (.v (.one (.row hp.length 0))) (hp ++ [.mrow e 0 m]) v w' := by
  obtain ⟨he, hd⟩ := z17x hb
  obtain ⟨h1, h2⟩ := ok.ofBytes e s m hm
  have hrun := Lib.run_convert_string_bytes w src dst e ⟨s.toArray⟩ hs hd he
  have hold : ∀ k, k < w.heap.size → (Lib.bytesWorld w e ⟨s.toArray⟩).heap[k]? = w.heap[k]? := fun k hk => Lib.bytesWorld_at_old w e _ k hk
  have hwz := Lib.bytesWorld_size w e ⟨s.toArray⟩
  have hlen : (⟨s.toArray⟩ : ByteArray).size = m.length := by rw [h1]; simp [ByteArray.size]
  have hge := grownCap_ge w m.length 0 e
  have hle := grownCap_le_maxLen w m.length 0 e (by unfold maxLen; omega)
  have hd2 : (hp ++ [Blk.dead])[hp.length]? = some .dead := by simp
  refine ⟨_, _, hrun, ?_⟩
  rw [hlen]
  have hset : hp ++ [Blk.mrow e 0 m] = (hp ++ [Blk.dead]).set hp.length (Blk.mrow e 0 m) := by simp
  rw [hset]
  refine h.moreD.fresh hd2 (x' := .mrow e 0 m) (i' := .row (some w.heap.size) e 0 m.length (grownCap w m.length 0 e)) (by omega) hold (fun k hk => ?_) (fun he' hf => ?_) rfl rfl rfl (fun he' hf => ?_)
  · simp only [Inf.blk, Option.some.injEq] at hk
    subst hk
    exact ⟨by omega, Nat.le_refl _⟩
  · have hcs : (Lib.bytesCells w e ⟨s.toArray⟩).size = grownCap w m.length 0 e := by
      unfold Lib.bytesCells
      rw [hlen]
      simp only [Array.size_append, Array.size_map, Array.size_replicate, List.size_toArray]
      omega
    refine ⟨some w.heap.size, grownCap w m.length 0 e, z1w .., _, Lib.bytesWorld_at_new w e ⟨s.toArray⟩, hge, hle, by rw [hcs, hce, Nat.mul_one], fun j c hj => ?_⟩
    have hj' : j < s.length := by
      rw [h2] at hj
      have := (List.getElem?_eq_some_iff.1 hj).1
      simpa using this
    rw [h2, List.getElem?_map] at hj
    obtain ⟨b, hb1, rfl⟩ := Option.map_eq_some_iff.1 hj
    refine ⟨.int .u8 (b.toNat : Int), ?_, .int _ _⟩
    unfold Lib.bytesCells
    rw [Array.getElem?_append_left (by simpa using hj')]
    simp [hb1]
  · exact .row _ 0 _ _ _ _ _ _ (z1w ..) (Nat.le_refl _) rfl fun _ => rfl
theorem z1zq (ok : CdOk P cd) {hp : List (Blk U)} (h : HR P cd M Fz hp w) {src dst e : Nat} (hs : P.underlying src = some .string) (hb : byteSl P dst e = true) (s : List UInt8) {m : List (U e)} (hm : cd.ofBytes e s = some m) :
    ∃ v w', (convert src dst (.string ⟨s.toArray⟩)).run P w = .ok v w' ∧ Post P cd M Fz w (.v (.one (.sl e m false))) hp v w' := by
  obtain ⟨he, hd⟩ := z17x hb
  obtain ⟨h1, h2⟩ := ok.ofBytes e s m hm
  have hrun := Lib.run_convert_string_bytes w src dst e ⟨s.toArray⟩ hs hd he
  have hold : ∀ k, k < w.heap.size → (Lib.bytesWorld w e ⟨s.toArray⟩).heap[k]? = w.heap[k]? := fun k hk => Lib.bytesWorld_at_old w e _ k hk
  have hsz := Lib.bytesWorld_size w e ⟨s.toArray⟩
  have hf : Frz Fz w (fun k => Fz k ∨ k = w.heap.size) (Lib.bytesWorld w e ⟨s.toArray⟩) := fun k hk => ⟨.inl hk, hold k (h.frz k hk)⟩
  refine ⟨_, _, hrun, M, fun k => Fz k ∨ k = w.heap.size, ?_, ?_, .refl _, hf, ⟨rfl, rfl, rfl, by omega, fun k hk _ => hold k hk⟩, fun k hk => .inl hk, fun k hk => ?_⟩
  · have hlen : (⟨s.toArray⟩ : ByteArray).size = m.length := by rw [h1]; simp [ByteArray.size]
    rw [hlen]
    refine R1.sl e m false _ _ (fun j => .int .u8 ((s.getD j 0).toNat : Int)) (fun h => by cases h) (grownCap_ge _ _ _ _) (fun _ => ⟨w.heap.size, 0, rfl, .inr rfl, fun j c hj => ?_⟩) (fun j c hj => ?_)
    · have hj' : j < s.length := by
        rw [h2] at hj
        have := (List.getElem?_eq_some_iff.1 hj).1
        simpa using this
      have := Lib.bytesWorld_cell w e ⟨s.toArray⟩ j (by simpa [ByteArray.size] using hj')
      rw [Nat.zero_add]
      simpa [at0] using this
    · rw [h2, List.getElem?_map] at hj
      obtain ⟨b, hb1, rfl⟩ := Option.map_eq_some_iff.1 hj
      have : s.getD j 0 = b := by simp [List.getD, hb1]
      rw [this]
      exact .int _ _
  · refine ⟨fun b x hx => ?_, h.out, h.inj, fun b i k h3 h4 h5 => ?_, h.fz.mono hf fun k hk => ?_, fun b i k h3 h4 => by have := h.lt b i k h3 h4; omega⟩
    · exact RB.grow (h.blk b x hx) hf (fun k i h3 h4 => hold k (h.lt b i k h3 h4))
    · rcases h5 with h5 | h5
      · exact h.apart b i k h3 h4 h5
      · have := h.lt b i k h3 h4; omega
    · rcases hk with hk | hk
      · have := h.frz k hk; omega
      · omega
  · rcases hk with hk | hk
    · exact .inl hk
    · exact .inr (.inr (by omega))
theorem z222 (ok : CdOk P cd) {hp : List (Blk U)} {id : Nat} (h : HR P cd M Fz hp w) (src dst : Nat) {x : V U} {vx : Value} (hx : RV P cd M Fz w x vx) (mk : Bool) : ValOk P cd M Fz w hp id (convert src dst vx) (convK P cd mk src dst x) := by
  unfold convK
  split
  · rename_i ts k hs hd
    split
    · obtain rfl := R1.int_inv hx
      refine .pur h (.one (v := .int k (k.wrap _)) ?_ (.int _ _))
      simp only [convert, Sem.run_bind, run_underlying hs, run_underlying hd, Result.andThen]
      rfl
    · exact .fail
  · rename_i hs hd
    split
    · obtain rfl := R1.str_inv hx
      refine .pur h (.one (v := .string _) ?_ (.str _))
      simp only [convert, Sem.run_bind, run_underlying hs, run_underlying hd, Result.andThen]
      rfl
    · exact .fail
  · rename_i e hs hd
    split
    · rename_i s
      rw [cond_eq_ite]
      split
      · rename_i hb
        split
        · rename_i m hm
          obtain rfl := R1.str_inv hx
          cases mk with
          | false =>
            intro d hp' he
            simp only [cond_false, K.sem, Tree.run, Option.some.injEq, Prod.mk.injEq] at he
            obtain ⟨rfl, rfl⟩ := he
            exact z1zq ok h hs hb s hm
          | true =>
            simp only [cond_true]
            rw [cond_eq_ite]
            split
            · rename_i hce
              intro d hp' he
              simp only [K.sem, Tree.run] at he
              split at he
              · rename_i hl
                simp only [Option.some.injEq, Prod.mk.injEq] at he
                obtain ⟨rfl, rfl⟩ := he
                exact z216 ok h hs hb (Nat.eq_of_beq_eq_true hce) s hm (of_decide_eq_true hl)
              · cases he
            · exact .fail
        · exact .fail
      · exact .fail
    · exact .fail
  · rename_i e hs hd
    split
    · rename_i t l full
      refine .pur h ?_
      rw [cond_eq_ite]
      split
      · rename_i hb
        split
        · rename_i s hbs
          obtain ⟨ns, hnl, rfl, hns⟩ := zmb ok hbs
          cases hx with
          | sl _ _ _ a cap f h1 h0 h2 h3 =>
            refine .one (v := .string _) (zh9 hb hd ns a l.length cap hnl fun hpos => ?_) (.str _)
            obtain ⟨k, o, rfl, hk, hc⟩ := h2 (by intro e; subst e; simp at hpos)
            refine ⟨k, o, rfl, fun i hi => ?_⟩
            rw [hc i _ (hns i hi)]
            have := R1.int_inv (h3 i _ (hns i hi))
            rw [this]
        · exact .fail
      · exact .fail
    · rename_i b v
      refine .lod h fun blk hbk => ?_
      cases blk with
      | dead => exact .fail
      | cells cs => exact .fail
      | row t v' l =>
        simp only [cond_eq_ite]
        split
        · rename_i hc
          simp only [Bool.and_eq_true] at hc
          obtain rfl := Nat.eq_of_beq_eq_true hc.2
          split
          · rename_i s hbs
            obtain ⟨ns, hnl, rfl, hns⟩ := zmb ok hbs
            cases hx with
            | row _ _ pos t' ver len cap _ hm hle hsc hv =>
              obtain ⟨rfl, rfl, rfl, hpos⟩ := h.row_at hbk hm
              have hv := hv rfl
              cases pos with
              | none =>
                obtain ⟨ad, rfl⟩ := hv
                have hpos : l = [] := hpos
                subst hpos
                exact .one (v := .string _) (zh9 hc.1 hd ns ad 0 0 hnl fun hp => by omega) (.str _)
              | some k =>
                have hv : _ = _ := hv
                subst hv
                obtain ⟨cur, r⟩ := hpos
                refine .one (v := .string _) (zh9 hc.1 hd ns _ l.length cap hnl fun hp => ⟨k, 0, rfl, fun i hi => ?_⟩) (.str _)
                obtain ⟨y, h1, h2⟩ := r.cells i _ (hns i hi)
                rw [zha r.heap, Nat.zero_add, h1, R1.int_inv h2]
          · exact .fail
        · exact .fail
      | mrow t v' l =>
        simp only [cond_eq_ite]
        split
        · rename_i hc
          simp only [Bool.and_eq_true] at hc
          obtain rfl := Nat.eq_of_beq_eq_true hc.2
          split
          · rename_i s hbs
            obtain ⟨ns, hnl, rfl, hns⟩ := zmb ok hbs
            cases hx with
            | row _ _ pos t' ver len cap _ hm hle hsc hv =>
              obtain ⟨rfl, rfl, rfl, hpos⟩ := h.mrow_at hbk hm
              have hv := hv rfl
              cases pos with
              | none =>
                obtain ⟨ad, rfl⟩ := hv
                have hpos : l = [] := hpos
                subst hpos
                exact .one (v := .string _) (zh9 hc.1 hd ns ad 0 0 hnl fun hp => by omega) (.str _)
              | some k =>
                have hv : _ = _ := hv
                subst hv
                obtain ⟨cur, r⟩ := hpos
                refine .one (v := .string _) (zh9 hc.1 hd ns _ l.length cap hnl fun hp => ⟨k, 0, rfl, fun i hi => ?_⟩) (.str _)
                obtain ⟨y, h1, h2⟩ := r.cells i _ (hns i hi)
                rw [zha r.heap, Nat.zero_add, h1, R1.int_inv h2]
          · exact .fail
        · exact .fail
    · rename_i b v lo n
      refine .lod h fun blk hbk => ?_
      cases blk with
      | dead => exact .fail
      | cells cs => exact .fail
      | mrow t v' l => exact .fail
      | row t v' l =>
        simp only [cond_eq_ite]
        split
        · rename_i hc
          simp only [Bool.and_eq_true] at hc
          obtain rfl := Nat.eq_of_beq_eq_true hc.2
          split
          · rename_i s hbs
            obtain ⟨ns, hnl, rfl, hns⟩ := zmb ok hbs
            have h1s : P.cellsOf t = 1 := (ok.bytes t _ _ hbs).1
            cases hx with
            | own _ _ _ _ pos t' ver len cap _ hm hle hsc hv =>
              obtain ⟨rfl, rfl, rfl, hpos⟩ := h.row_at hbk hm
              obtain ⟨hlo, a, c, rfl, hnc, ha⟩ := hv rfl
              have hlen : ((l.drop lo).take n).length = n := by simp; omega
              refine .one (v := .string _) (zh9 hc.1 hd ns a n c (by rw [hnl, hlen]) fun hp => ?_) (.str _)
              obtain ⟨k, rfl, rfl⟩ := ha hp
              obtain ⟨cur, r⟩ := hpos
              refine ⟨k, lo * P.cellsOf t', rfl, fun i hi => ?_⟩
              have := hns i (by rw [hlen]; exact hi)
              rw [zja ok, List.getElem?_take] at this
              split at this
              · rw [List.getElem?_drop] at this
                obtain ⟨y, h1, h2⟩ := r.cells _ _ this
                rw [zha r.heap, h1, R1.int_inv h2]
              · cases this
          · exact .fail
        · exact .fail
    · exact .fail
  · exact .fail

/-! ### new blocks -/
theorem alloc_old (w : World) (o : Obj) (k : Nat) (hk : k < w.heap.size) : (w.alloc o).heap[k]? = w.heap[k]? := heap_alloc_old w o k hk
theorem z17t (w : World) (o : Obj) : (w.alloc o).heap[w.heap.size]? = some o := heap_alloc_new w o
def tagOf (P : Program) (f t : Nat) : Tag (tagT P f t) := ⟨t, fun T h => by
  unfold tagT at h
  rw [cond_eq_ite] at h
  split at h
  · injection h
  · cases h⟩
theorem z1o3 {hp : List (Blk U)} {id : Nat} (h : HR P cd M Fz hp w) (hid : hp[id]? = some .dead) {cs : List (C U)} {arr : Array Value} {tg : Option Nat} (e : Tag tg) (hr : RL P cd M Fz w cs arr.toList) :
    Post P cd M Fz w (.v (.one (.ptr id 0))) (hp.set id (.cells cs tg)) (.pointer (some (at0 w.heap.size 0))) (w.alloc (.cells arr e.1)) := by
  refine h.fresh hid (i' := .cells w.heap.size) (by simp) (fun k hk => alloc_old w _ k hk) (fun k hk => ?_) (fun he hf => ?_) rfl rfl rfl (fun he hf => ?_)
  · simp only [Inf.blk, Option.some.injEq] at hk
    subst hk
    exact ⟨by simp, Nat.le_refl _⟩
  · exact ⟨w.heap.size, arr, e, z1w .., z17t w _, hr.mono he hf⟩
  · exact .ptr id 0 w.heap.size (z1w ..)
theorem z22o {hp : List (Blk U)} {id : Nat} (h : HR P cd M Fz hp w) (hid : hp[id]? = some .dead) (t : Nat) {x : V U} {vx : Value} (hx : RV P cd M Fz w x vx) :
    ValOk P cd M Fz w hp id (Instr.box t vx) (.alo (boxB P t x) fun id => .ptr id 0) := by
  intro d hp' hd
  simp only [K.sem, boxB, cond_eq_ite] at hd
  split at hd
  · rename_i hf
    simp only [Tree.run, Option.map_some, Option.some.injEq, Prod.mk.injEq] at hd
    obtain ⟨rfl, rfl⟩ := hd
    rw [z3g]
    have hsol : solidL x.cells = true := by
      unfold fitL at hf
      rw [cond_eq_ite] at hf
      split at hf
      · exact hf
      · cases hf
    have hc : RL P cd M Fz w x.cells vx.cells.toList := hx.cells fun c e => by
      subst e
      exact R1.scal hx (zpm hsol c (by simp [V.cells]))
    refine ⟨_, _, ?_, z1o3 h hid (tagOf P 4 t) hc⟩
    simp [Instr.box, newVar, newRow, Result.andThen, at0, tagOf]
  · cases hd

/-! ### zero values -/
theorem z1zo {c : C U} {v : Value} (h : match1 c v = true) : R1 P cd M Fz w c v := by
  unfold match1 at h
  split at h
  · have := eq_of_beq h; subst this; exact .bool _
  · simp only [Bool.and_eq_true, decide_eq_true_eq] at h
    obtain ⟨rfl, rfl⟩ := h
    exact .int _ _
  · have := of_decide_eq_true h
    subst this
    rename_i t
    have : t = ⟨t.data.toList.toArray⟩ := by cases t; simp
    rw [this]
    exact .str _
  · rename_i full
    exact .sl _ [] full none 0 (fun _ => undef) (fun _ => rfl) (Nat.le_refl _) (fun e => absurd rfl e) (fun j c hj => by simp at hj)
  · exact .nilp
  · cases h
theorem zn4 : ∀ {cs : List (C U)} {vs : List Value}, matchL cs vs = true → vs.length = cs.length ∧ ∀ (j : Nat) c v, cs[j]? = some c → vs[j]? = some v → R1 P cd M Fz w c v
  | [], [], _ => ⟨rfl, fun j c v h => by simp at h⟩
  | [], _ :: _, h => by simp [matchL] at h
  | _ :: _, [], h => by simp [matchL] at h
  | c :: cs, v :: vs, h => by
    simp only [matchL, cond_eq_ite] at h
    split at h
    · rename_i h1
      obtain ⟨h2, h3⟩ := zn4 h
      refine ⟨by simp [h2], fun j c' v' e1 e2 => ?_⟩
      cases j with
      | zero => simp at e1 e2; subst e1; subst e2; exact z1zo h1
      | succ j => exact h3 j c' v' (by simpa using e1) (by simpa using e2)
    · cases h
theorem z1k2 : ∀ {cs : List (C U)}, okAB cs = true → okA cs
  | [], _ => fun _ _ _ h => by simp at h
  | c :: cs, h => by
    intro t n l hm
    cases c <;> simp only [okAB, cond_eq_ite] at h <;> first
      | (rcases List.mem_cons.1 hm with e | e
         · cases e
         · exact z1k2 h t n l e)
      | skip
    split at h
    · rename_i h1
      rcases List.mem_cons.1 hm with e | e
      · cases e
        exact Nat.eq_of_beq_eq_true h1
      · exact z1k2 h t n l e
    · cases h
theorem z11d {t : Nat} {cs : List (C U)} (h : zeroC P cd t = some cs) : ∃ i z, P.info? t = some i ∧ i.zero = some z ∧ ∀ M Fz w, RL P cd M Fz w cs z.cells.toList := by
  unfold zeroC at h
  split at h
  · rename_i cs' i h1 h2
    split at h
    · rename_i z hz
      rw [cond_eq_ite] at h
      split at h
      · rename_i hc
        simp only [Bool.and_eq_true] at hc
        injection h with h
        subst h
        refine ⟨i, z, h2, hz, fun M Fz w => ⟨z1k2 hc.1, ?_, ?_⟩⟩
        · exact (zn4 (P := P) (cd := cd) (M := M) (Fz := Fz) (w := w) hc.2).1
        · exact (zn4 hc.2).2
      · cases h
    · cases h
  · cases h
theorem z11e (ok : CdOk P cd) {t : Nat} {x : U t} (h : zeroE P cd t = some x) : ∃ i z, P.info? t = some i ∧ i.zero = some z ∧ z.cells.size = P.cellsOf t ∧ ∀ M Fz w (j : Nat) c v, (cd.enc t x)[j]? = some c → z.cells[j]? = some v → R1 P cd M Fz w c v := by
  unfold zeroE at h
  split at h
  · rename_i x' i h1 h2
    split at h
    · rename_i z hz
      rw [cond_eq_ite] at h
      split at h
      · rename_i hc
        injection h with h
        subst h
        refine ⟨i, z, h2, hz, ?_, fun M Fz w j c v e1 e2 => ?_⟩
        · have := (zn4 (P := P) (cd := cd) (M := fun _ => none) (Fz := fun _ => False) (w := default) hc).1
          rw [ok.len] at this
          simpa using this
        · exact (zn4 hc).2 j c v e1 (by simpa using e2)
      · cases h
    · cases h
  · cases h
theorem z20j {hp : List (Blk U)} {id : Nat} (h : HR P cd M Fz hp w) (hid : hp[id]? = some .dead) (t : Nat) (old : Value) :
    ValOk P cd M Fz w hp id (Instr.alloc t true old) (.alo (match zeroC P cd t with | some cs => .leaf (.cells cs (tagT P 4 t)) | none => .fail) fun id => .ptr id 0) := by
  intro d hp' hd
  simp only [K.sem] at hd
  split at hd
  · rename_i cs hz
    simp only [Tree.run, Option.map_some, Option.some.injEq, Prod.mk.injEq] at hd
    obtain ⟨rfl, rfl⟩ := hd
    rw [z3g]
    obtain ⟨i, z, hi, hz, hr⟩ := z11d hz
    refine ⟨_, _, ?_, z1o3 h hid (tagOf P 4 t) (hr M Fz w)⟩
    rw [show (tagOf P 4 t).val = t from rfl]
    simp [Instr.alloc, zeroValue, typeInfo, hi, hz, newVar, newRow, Result.andThen, at0]
  · cases hd

/-! ### struct values -/
theorem zqu (ok : CdOk P cd) (t : Nat) : ∀ (l : List (U t)) (i : Nat) (y : U t), i < l.length →
    (l.set i y).flatMap (cd.enc t) = (l.flatMap (cd.enc t)).take (i * P.cellsOf t) ++ cd.enc t y ++ (l.flatMap (cd.enc t)).drop (i * P.cellsOf t + P.cellsOf t)
  | [], i, y, h => by simp at h
  | x :: l, 0, y, _ => by
    simp only [List.set_cons_zero, List.flatMap_cons, Nat.zero_mul, List.take_zero, List.nil_append, Nat.zero_add]
    rw [List.drop_append, ok.len, Nat.sub_self, (List.drop_of_length_le (by rw [ok.len]; exact Nat.le_refl _) : List.drop (P.cellsOf t) (cd.enc t x) = [])]
    simp
  | x :: l, i + 1, y, h => by
    have ih := zqu ok t l i y (by simpa using h)
    simp only [List.set_cons_succ, List.flatMap_cons, ih]
    have e1 : (i + 1) * P.cellsOf t = P.cellsOf t + i * P.cellsOf t := by rw [Nat.add_mul, Nat.one_mul, Nat.add_comm]
    rw [e1, List.take_append, List.drop_append, ok.len]
    rw [(List.take_of_length_le (by rw [ok.len]; omega) : List.take (P.cellsOf t + i * P.cellsOf t) (cd.enc t x) = cd.enc t x)]
    rw [(List.drop_of_length_le (by rw [ok.len]; omega) : List.drop (P.cellsOf t + i * P.cellsOf t + P.cellsOf t) (cd.enc t x) = [])]
    simp only [Nat.add_sub_cancel_left, List.nil_append, List.append_assoc]
    rw [show P.cellsOf t + i * P.cellsOf t + P.cellsOf t - P.cellsOf t = i * P.cellsOf t + P.cellsOf t by omega]
theorem RL.splice {cs cs' new : List (C U)} {vs us : List Value} {o : Nat} (h : RL P cd M Fz w cs vs) (hn : RL P cd M Fz w new us) (hok : okA cs') (ho : o + us.length ≤ vs.length)
    (e : leaves cd cs' = (leaves cd cs).take o ++ leaves cd new ++ (leaves cd cs).drop (o + us.length)) : RL P cd M Fz w cs' (vs.take o ++ us ++ vs.drop (o + us.length)) := by
  refine ⟨hok, ?_, ?_⟩
  · rw [e]; simp [h.2.1, hn.2.1]
  · intro j c v h1 h2
    rw [e] at h1
    have e1 : ((leaves cd cs).take o).length = o := by simp; rw [← h.2.1]; omega
    have e2 : (vs.take o).length = o := by simp; omega
    rw [List.append_assoc] at h1 h2
    by_cases hj : j < o
    · rw [List.getElem?_append_left (by omega)] at h1 h2
      rw [List.getElem?_take, if_pos hj] at h1 h2
      exact h.2.2 j c v h1 h2
    · rw [List.getElem?_append_right (by omega)] at h1 h2
      rw [e1] at h1; rw [e2] at h2
      by_cases hk : j - o < us.length
      · rw [List.getElem?_append_left (by rw [← hn.2.1]; omega)] at h1
        rw [List.getElem?_append_left (by omega)] at h2
        exact hn.2.2 _ c v h1 h2
      · rw [List.getElem?_append_right (by rw [← hn.2.1]; omega)] at h1
        rw [List.getElem?_append_right (by omega)] at h2
        rw [← hn.2.1] at h1
        rw [List.getElem?_drop] at h1 h2
        exact h.2.2 _ c v h1 h2
theorem z1dh (off : Nat) (vs : List Value) (cells : Array Value) (h : off + vs.length ≤ cells.size) :
    ((vs.zipIdx 0).foldl (fun cs (x : Value × Nat) => cs.setIfInBounds (off + x.2) x.1) cells).toList = cells.toList.take off ++ vs ++ cells.toList.drop (off + vs.length) := by
  obtain ⟨h1, h2⟩ := Go.Great.foldl_set off vs 0 cells
  apply List.ext_getElem?
  intro k
  rw [Array.getElem?_toList, h2 k, Nat.add_zero]
  have e2 : (cells.toList.take off).length = off := by simp; omega
  rw [List.append_assoc]
  by_cases hk : k < off
  · rw [if_neg (by omega), List.getElem?_append_left (by omega), List.getElem?_take, if_pos hk]
    simp
  · rw [List.getElem?_append_right (by omega), e2]
    by_cases hk2 : k - off < vs.length
    · rw [if_pos (by omega), List.getElem?_append_left hk2]
    · rw [if_neg (by omega), List.getElem?_append_right (by omega), List.getElem?_drop, show off + vs.length + (k - off - vs.length) = k by omega]
      simp
def RPs (P : Program) (cd : Cd U) (M : Mp) (Fz : Nat → Prop) (w : World) : List (Nat × V U) → List (Nat × Value) → Prop
  | [], [] => True
  | (i, x) :: r, (j, v) :: s => i = j ∧ RV P cd M Fz w x v ∧ RPs P cd M Fz w r s
  | _, _ => False
theorem zla (ok : CdOk P cd) {x : V U} {v : Value} {n : Nat} (h : fitL P x.cells n = true) (hx : RV P cd M Fz w x v) : RL P cd M Fz w x.cells v.cells.toList ∧ v.cells.size = n ∧ ∀ u ∈ v.cells.toList, u.oneCell' = true := by
  unfold fitL at h
  rw [cond_eq_ite] at h
  split at h
  · rename_i h1
    have h1 := Nat.eq_of_beq_eq_true h1
    have hc : RL P cd M Fz w x.cells v.cells.toList := hx.cells fun c e => by
      subst e
      exact R1.scal hx (zpm h c (by simp [V.cells]))
    refine ⟨hc, ?_, hc.scal ok h⟩
    have := hc.2.1
    rw [z1hs ok hc.1, h1] at this
    simpa using this
  · cases h
theorem z1dv (ok : CdOk P cd) {place : Nat → Option (Nat × Nat)} : ∀ {ps : List (Nat × V U)} {vs : List (Nat × Value)} {cs cs' : List (C U)} {cells : Array Value}, RL P cd M Fz w cs cells.toList → RPs P cd M Fz w ps vs → fillC P place cs ps = some cs' →
    ∃ r, Instr.fill place cells vs = some r ∧ RL P cd M Fz w cs' r.toList
  | [], [], cs, cs', cells, h, _, e => by
    simp only [fillC, Option.some.injEq] at e
    subst e
    exact ⟨cells, rfl, h⟩
  | [], _ :: _, _, _, _, _, h, _ => h.elim
  | _ :: _, [], _, _, _, _, h, _ => h.elim
  | (i, x) :: ps, (j, v) :: vs, cs, cs', cells, h, hp, e => by
    obtain ⟨rfl, hx, hr⟩ := hp
    simp only [fillC] at e
    split at e
    · rename_i o n hpl
      rw [cond_eq_ite] at e
      split at e
      · rename_i hf
        split at e
        · rename_i cs2 hput
          obtain ⟨hc, hn, _⟩ := zla ok hf hx
          obtain ⟨h1, h2⟩ := h.put ok hc (by simpa using hn) hput
          have hn2 : v.cells.toList.length = n := by simpa using hn
          have hsp := z1dh o v.cells.toList cells (by rw [hn2]; simpa using h2)
          have h1' : RL P cd M Fz w cs2 ((v.cells.toList.zipIdx 0).foldl (fun cs (x : Value × Nat) => cs.setIfInBounds (o + x.2) x.1) cells).toList := by
            rw [hsp, hn2]
            exact h1
          obtain ⟨r, h3, h4⟩ := z1dv ok h1' hr e
          refine ⟨r, ?_, h4⟩
          unfold Instr.fill
          simp only [hpl]
          rw [if_neg (by simp [hn]; simpa using h2)]
          rw [← h3]
          congr 1
          rw [← Array.foldl_toList]
          simp [Array.toList_zipIdx]
        · cases e
      · cases e
    · cases e
end
end Go.Ab
end
