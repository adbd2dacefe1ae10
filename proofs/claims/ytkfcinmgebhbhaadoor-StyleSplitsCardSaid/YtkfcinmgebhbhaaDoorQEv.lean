/-
  The interpreter over plain values.
-/
import Derived.Test.YtkfcinmgebhbhaaDoorQVal
import Derived.Test.YtkfcinmgebhbhaaDoorQDrawF
namespace Go.Lf
open Go

/-! ### Places -/
inductive Dir where | i | l | r
  deriving DecidableEq

def getP : (t : Ty) → List Dir → t.den → Option Dn
  | t, [], x => some ⟨t, x⟩
  | .st t, .i :: p, x => getP t p x
  | .pr a _, .l :: p, x => getP a p x.1
  | .pr _ b, .r :: p, x => getP b p x.2
  | _, _, _ => none
def setP : (t : Ty) → List Dir → Dn → t.den → Option Dn
  | t, [], y, _ => if y.1.er = t.er then some y else none
  | .st t, .i :: p, y, x => match setP t p y x with | some z => some ⟨.st z.1, z.2⟩ | none => none
  | .pr a b, .l :: p, y, x => match setP a p y x.1 with | some z => some ⟨.pr z.1 b, (z.2, x.2)⟩ | none => none
  | .pr a b, .r :: p, y, x => match setP b p y x.2 with | some z => some ⟨.pr a z.1, (x.1, z.2)⟩ | none => none
  | _, _, _, _ => none
def offP : Ty → List Dir → Nat
  | _, [] => 0
  | .st t, .i :: p => offP t p
  | .pr a _, .l :: p => offP a p
  | .pr a b, .r :: p => a.size + offP b p
  | _, _ => 0
def fpath : Ty → Nat → List Dir
  | .pr _ _, 0 => [.l]
  | .pr _ b, f + 1 => .r :: fpath b f
  | _, _ => []

def getTy : Ty → List Dir → Option Ty
  | t, [] => some t
  | .st t, .i :: p => getTy t p
  | .pr a _, .l :: p => getTy a p
  | .pr _ b, .r :: p => getTy b p
  | _, _ => none
def nf : Ty → Nat
  | .pr _ b => nf b + 1
  | .unit => 0
  | _ => 1

/-- the same value, some rights given up -/
def coe : (t t' : Ty) → t.den → Option t'.den
  | .st a, .st b, x => if h : a = b then some (h ▸ x) else coe a b x
  | .pr a b, .pr a' b', x => match coe a a' x.1, coe b b' x.2 with | some y, some z => some (y, z) | _, _ => none
  | .rw _ a, .sl b, x => if h : a = b then some (h ▸ x : List b.den) else none
  | t, t', x => if h : t = t' then some (h ▸ x) else none

def zero : (t : Ty) → Option t.den
  | .int _ => some (0 : Int)
  | .bool => some false
  | .str => some ([] : List UInt8)
  | .unit => some ()
  | .sl t => some ([] : List t.den)
  | .rw _ t => some ([] : List t.den)
  | .mr _ t => some ([] : List t.den)
  | .eb _ t => some (none : Option t.den)
  | .st t => zero t
  | .pr a b => match zero a, zero b with | some x, some y => some (x, y) | _, _ => none
  | .dead _ _ => none
  | .ptr _ => none

/-! ### States -/
inductive D : Type
  | v (t : Ty) (x : t.den)
  | nils | nilp | niI | und | udf
  | ref (j : Nat) (p : List Dir) (o : Nat)                       -- a pointer into an object
  | fro (t : Ty) (x : t.den)                                     -- a pointer to what no more turns
  | aref (j : Nat) (p : List Dir) (o : Nat)                      -- the slice that stands in an object's place
  | ael (j : Nat) (p : List Dir) (o : Nat) (n sz : Nat) (q : List Dir) (qo : Nat)   -- a pointer into its n-th element, which has so many cells
  | tup (l : List Dn)
  | fn (f : Nat)

/-- An object: a block of cells of a type's number, or ('none') a slice's head that stands in slots alone. -/
structure Ob where
  tid : Option Nat
  t : Ty
  x : t.den

structure St where
  env : List (Nat × D)
  objs : List (Nat × Ob)

def look {α : Type} : List (Nat × α) → Nat → Option α
  | [], _ => none
  | (k, v) :: r, n => bif Nat.beq k n then some v else look r n
def putl {α : Type} : List (Nat × α) → Nat → α → List (Nat × α)
  | [], n, x => [(n, x)]
  | (k, v) :: r, n, x => bif Nat.beq k n then (n, x) :: r else (k, v) :: putl r n x
def dell {α : Type} : List (Nat × α) → Nat → List (Nat × α)
  | [], _ => []
  | (k, v) :: r, n => bif Nat.beq k n then dell r n else (k, v) :: dell r n
def mem (n : Nat) : List Nat → Bool
  | [] => false
  | k :: r => bif Nat.beq k n then true else mem n r

def prodT : List Ty → Type
  | [] => Unit
  | [a] => a.den
  | a :: b :: r => a.den × prodT (b :: r)

/-- A parameter: a value, or a pointer to an object of a type's number, as it comes and as it goes. -/
inductive Par where
  | val (t : Ty)
  | cfn (g : Nat)   -- just this function
  | obj (tid : Nat) (t t' : Ty) (p : List Dir)   -- the pointer shows the object's part at 'p'
def Par.ty : Par → Ty | .val t => t | .cfn _ => .unit | .obj _ t _ _ => t
def outs : List Par → List Ty
  | [] => []
  | .val _ :: r => outs r
  | .cfn _ :: r => outs r
  | .obj _ _ t' _ :: r => t' :: outs r
/-- What is known of a function: it answers 'f', where this answers. -/
structure Entry where
  ps : List Par
  rs : List Ty
  f : prodT (ps.map Par.ty) → Option (prodT (rs ++ outs ps))

structure TyI where
  ty : Ty
  el : Nat
  sz : Nat

structure Ctx where
  n : Nat
  ty : List (Nat × TyI)
  fn : List (Nat × Entry)
  tk : List Nat
  ef : List Nat
  own : List (Nat × Ty)

def constD : Value → D
  | .int k n => .v (.int k) n
  | .bool b => .v .bool b
  | .string s => .v .str s.data.toList
  | .slice none 0 0 => .nils
  | .pointer none => .nilp
  | .nilIface => .niI
  | _ => .und

def frzL : List Dn → Option (List Dn)
  | [] => some []
  | ⟨t, x⟩ :: r => match coe t t.er x, frzL r with | some y, some l => some (⟨t.er, y⟩ :: l) | _, _ => none
def D.peek : D → D
  | .v t x => match coe t t.er x with | some y => .v t.er y | none => .und
  | .tup l => match frzL l with | some l' => .tup l' | none => .und
  | d => d

def St.raw (S : St) : Operand → D
  | .tmp t => match look S.env t with | some d => d | none => .und
  | .const c => constD c
  | .func f => .fn f
  | .global _ => .und
def St.get (S : St) (x : Operand) : D := (S.raw x).peek
def St.put (S : St) (d : Nat) (x : D) : St := ⟨putl S.env d x, S.objs⟩
/-- what an operand's slot is left with, once its rights are taken -/
def St.strip (S : St) : Operand → St
  | .tmp t => match look S.env t with | some d => S.put t d.peek | none => S
  | _ => S

/-- a plain value of a type -/
def asTy (t : Ty) : D → Option t.den
  | .v t' x => coe t' t x
  | .nils => match t with | .sl a => some ([] : List a.den) | .rw _ a => some ([] : List a.den) | .mr _ a => some ([] : List a.den) | _ => none
  | .niI => match t with | .eb _ a => some (none : Option a.den) | _ => none
  | _ => none

/-! ### Slices' heads -/
/-- what stands in an object's place -/
def St.at (S : St) (j : Nat) (p : List Dir) (o : Nat) : Option Dn := match look S.objs j with
  | some ob => bif Nat.beq (offP ob.t p) o then getP ob.t p ob.x else none
  | none => none
/-- the same, of a block of cells -/
def St.atC (S : St) (j : Nat) (p : List Dir) (o : Nat) : Option Dn := match look S.objs j with
  | some ob => match ob.tid with
    | some _ => bif Nat.beq (offP ob.t p) o then getP ob.t p ob.x else none
    | none => none
  | none => none
/-- slots that show a slice of an object's part no longer do -/
def killE (j o n : Nat) : List (Nat × D) → List (Nat × D)
  | [] => []
  | (k, .aref j' p o') :: r => (k, bif Nat.beq j j' && Nat.ble o o' && Nat.blt o' (o + n) then .und else .aref j' p o') :: killE j o n r
  | (k, .ael j' p o' m z q qo) :: r => (k, bif Nat.beq j j' && Nat.ble o o' && Nat.blt o' (o + n) then .und else .ael j' p o' m z q qo) :: killE j o n r
  | (k, d) :: r => (k, d) :: killE j o n r
/-- slots that have to do with an object no longer do -/
def killJ (j : Nat) : List (Nat × D) → List (Nat × D)
  | [] => []
  | (k, .aref j' p o') :: r => (k, bif Nat.beq j j' then .und else .aref j' p o') :: killJ j r
  | (k, .ael j' p o' m z q qo) :: r => (k, bif Nat.beq j j' then .und else .ael j' p o' m z q qo) :: killJ j r
  | (k, .ref j' p o') :: r => (k, bif Nat.beq j j' then .und else .ref j' p o') :: killJ j r
  | (k, d) :: r => (k, d) :: killJ j r
/-- a part of an object is written -/
def St.setO (S : St) (j : Nat) (p : List Dir) (o : Nat) (y : Dn) : Option St := match look S.objs j with
  | some ob => bif Nat.beq (offP ob.t p) o then
      match setP ob.t p y ob.x with
      | some z => some ⟨killE j o y.1.size S.env, putl S.objs j ⟨ob.tid, z.1, z.2⟩⟩
      | none => none
    else none
  | none => none
/-- a slice's head is taken from its place: the place is dead, or the object gone -/
def St.takeA (S : St) (j : Nat) (p : List Dir) (o : Nat) : Option (Dn × St) := match look S.objs j with
  | some ob => match ob.tid, p with
    | none, [] => match ob.t, ob.x with
      | .mr el t, l => bif Nat.beq o 0 then some (⟨.mr el t, l⟩, ⟨killJ j S.env, dell S.objs j⟩) else none
      | _, _ => none
    | none, _ => none
    | some _, p => match getP ob.t p ob.x with
      | some ⟨.mr el t, l⟩ => match S.setO j p o ⟨.dead el t, ()⟩ with
        | some S' => some (⟨.mr el t, l⟩, S')
        | none => none
      | _ => none
  | none => none
/-- the slice of an object's place is seen from now on: it no more turns -/
def St.open_ (S : St) (j : Nat) (p : List Dir) (o : Nat) : Option (Dn × St) := match S.takeA j p o with
  | some (⟨.mr _ t, l⟩, S1) => match look S1.objs j with
    | some _ => match S1.setO j p o ⟨.sl t, l⟩ with
      | some S2 => some (⟨.sl t, l⟩, S2)
      | none => none
    | none => some (⟨.sl t, l⟩, S1)
  | _ => none

/-- An operand as a value: heads of slices are opened; rights go along ('take') or stay behind. -/
def St.use (S : St) (take : Bool) (x : Operand) : Option (D × St) := match S.raw x with
  | .aref j p o => match S.open_ j p o with
    | some (y, S') => some (.v y.1 y.2, S')
    | none => none
  | .und => none
  | d => bif take then some (d, S.strip x) else (match d.peek with | .und => none | d' => some (d', S))

/-- an array's parts -/
def arT (a : Ty) : Nat → Ty
  | 0 => .unit
  | n + 1 => .pr a (arT a n)
def arL (a : Ty) : (n : Nat) → (arT a n).den → List a.den
  | 0, _ => []
  | n + 1, x => x.1 :: arL a n x.2
def arEl : Ty → Option Ty
  | .pr a _ => some a
  | _ => none
def isTy (c : Ctx) (id : Nat) (t : Ty) : Bool := match look c.ty id with
  | some i => decide (i.ty = t)
  | none => false

/-! ### Reckoning -/
def idx {α : Type} (l : List α) (i : Int) : Option α := if 0 ≤ i then l[i.toNat]? else none
def nth {α : Type} (l : List α) (n : Nat) : Option α := l[n]?
def chk (n : Nat) (i : Int) : Option Nat := if 0 ≤ i ∧ i < n then some i.toNat else none
def app {α : Type} (b : Nat) (l m : List α) : Option (List α) := if (l.length + m.length) * b ≤ 140737488355328 then some (l ++ m) else none
def cat (l m : List UInt8) : Option (List UInt8) := if l.length + m.length ≤ 9223372036854775807 then some (l ++ m) else none
def sub {α : Type} (l : List α) (a b : Int) : Option (List α) := if 0 ≤ a ∧ a ≤ b ∧ b ≤ l.length then some ((l.drop a.toNat).take (b.toNat - a.toNat)) else none
def nz (b : Int) (x : Int) : Option Int := if b = 0 then none else some x
def nn (b : Int) (x : Int) : Option Int := if b < 0 then none else some x
def bits (op : BinOp) (k : IntKind) (a b : Int) : Int :=
  let l := (BitVec.ofInt k.bits a)
  let m := (BitVec.ofInt k.bits b)
  let r := match op with | .and => l &&& m | .or => l ||| m | .xor => l ^^^ m | _ => l &&& ~~~m
  k.wrap (r.toNat : Int)

section
variable {R : Type}
def vInt (k : IntKind) (x : Int) : D := .v (.int k) x
def vBool (b : Bool) : D := .v .bool b
def vStr (l : List UInt8) : D := .v .str l
def intOp (op : BinOp) (k : IntKind) (a b : Int) (kk : D → Option R) : Option R :=
  match op with
  | .add => kk (vInt k (k.wrap (a + b)))
  | .sub => kk (vInt k (k.wrap (a - b)))
  | .mul => kk (vInt k (k.wrap (a * b)))
  | .quo => (nz b (k.wrap (a.tdiv b))).bind fun x => kk (vInt k x)
  | .rem => (nz b (a.tmod b)).bind fun x => kk (vInt k x)
  | .lss => kk (vBool (decide (a < b)))
  | .leq => kk (vBool (decide (a ≤ b)))
  | .gtr => kk (vBool (decide (b < a)))
  | .geq => kk (vBool (decide (b ≤ a)))
  | .eql => kk (vBool (decide (a = b)))
  | .neq => kk (vBool (decide (a ≠ b)))
  | .and => kk (vInt k (bits .and k a b))
  | .or => kk (vInt k (bits .or k a b))
  | .xor => kk (vInt k (bits .xor k a b))
  | .andNot => kk (vInt k (bits .andNot k a b))
  | _ => none
def binE (tb : Bool) (op : BinOp) (x y : D) (kk : D → Option R) : Option R :=
  match op, x, y with
  | .shl, .v (.int k) a, .v (.int _) b => (nn b (k.wrap (a * 2 ^ (min b.toNat k.bits)))).bind fun x => kk (vInt k x)
  | .shr, .v (.int k) a, .v (.int _) b => (nn b (a.fdiv (2 ^ (min b.toNat k.bits)))).bind fun x => kk (vInt k x)
  | op, .v (.int k) a, .v (.int k') b => if k = k' then intOp op k a b kk else none
  | .eql, .v .str a, .v .str b => kk (vBool (decide ((a : List UInt8) = b)))
  | .neq, .v .str a, .v .str b => kk (vBool (decide ((a : List UInt8) ≠ b)))
  | .add, .v .str a, .v .str b => (cat a b).bind fun x => kk (vStr x)
  | .eql, .v .bool a, .v .bool b => bif tb then kk (vBool (decide ((a : Bool) = b))) else none
  | .neq, .v .bool a, .v .bool b => bif tb then kk (vBool (decide ((a : Bool) ≠ b))) else none
  | _, _, _ => none
def unE (op : UnOp) (x : D) (kk : D → Option R) : Option R :=
  match op, x with
  | .not, .v .bool b => kk (vBool (!b))
  | .neg, .v (.int k) a => kk (vInt k (k.wrap (0 - a)))
  | _, _ => none
def pickE (c x y : D) (kk : D → Option R) : Option R :=
  match c, x, y with
  | .v .bool b, .v .bool x, .v .bool y => kk (vBool (bif b then x else y))
  | .v .bool b, .v t x, .udf => bif b then kk (.v t x) else none
  | .v .bool b, .udf, .v t y => bif b then none else kk (.v t y)
  | _, _, _ => none

def toProd : (ps : List Ty) → List D → Option (prodT ps)
  | [], [] => some ()
  | [a], [d] => asTy a d
  | a :: b :: r, d :: ds => match asTy a d, toProd (b :: r) ds with
    | some x, some y => some (x, y)
    | _, _ => none
  | _, _ => none
def unProd : (rs : List Ty) → prodT rs → List Dn
  | [], _ => []
  | [a], x => [⟨a, x⟩]
  | a :: b :: r, x => ⟨a, x.1⟩ :: unProd (b :: r) x.2
def tupD : List Dn → D
  | [⟨t, x⟩] => .v t x
  | l => .tup l


/-! ### Operations that leave all but their slot as it is -/
def loadV (c : Ctx) (S : St) (tid : Nat) (kk : D → Option R) : D → Option R
  | .ref j p off => match S.atC j p off, look c.ty tid with
    | some ⟨.mr el t, _⟩, some i => if (Ty.mr el t).er = i.ty then kk (.aref j p off) else none
    | some ⟨t, y⟩, some i => if t.er = i.ty then bif t.top then match coe t t.er y with | some y' => kk (.v t.er y') | none => none else none else none
    | _, _ => none
  | .fro t x => match look c.ty tid with
    | some i => if t = i.ty then bif t.top then kk (.v t x) else none else none
    | none => none
  | .ael j p off n sz q qo => match S.at j p off, look c.ty tid with
    | some ⟨.mr _ t, l⟩, some i => bif Nat.beq t.size sz && Nat.beq (offP t q) qo then (nth l n).bind fun e => match getP t q e with
        | some ⟨s, y⟩ => if s = i.ty then bif s.top then kk (.v s y) else none else none
        | none => none
        else none
    | _, _ => none
  | _ => none

/-- parts of a composite value, laid into its zero -/
def buildP (S : St) (t : Ty) : List (Nat × Operand) → t.den → Option t.den
  | [], z => some z
  | (f, x) :: r, z => bif Nat.blt f (nf t) then match getP (.st t) (.i :: fpath t f) z with
    | some ⟨s, _⟩ => match asTy s (S.get x) with
      | some y => match setP (.st t) (.i :: fpath t f) ⟨s, y⟩ z with
        | some ⟨t', z'⟩ => if h : t' = .st t then buildP S t r (h ▸ z' : (Ty.st t).den) else none
        | none => none
      | none => none
    | none => none
    else none
def elemsP (S : St) (t : Ty) : Nat → List (Nat × Operand) → Option (List t.den)
  | _, [] => some []
  | i, (j, x) :: r => bif Nat.beq i j then match asTy t (S.get x), elemsP S t (i + 1) r with
      | some y, some l => some (y :: l)
      | _, _ => none
    else none

def bytesI (l : List UInt8) : List Int := l.map fun b => (b.toNat : Int)
def bytesU (l : List Int) : List UInt8 := l.map fun x => UInt8.ofNat x.toNat
def made {α : Type} (sz : Nat) (z : α) (a b : Int) : Option (List α) := if 0 ≤ a ∧ a = b ∧ b * sz ≤ 140737488355328 then some (List.replicate a.toNat z) else none

def made0 {α : Type} (sz : Nat) (b : Int) : Option (List α) := if 0 ≤ b ∧ b * sz ≤ 140737488355328 then some ([] : List α) else none
/-- an empty slice with room, and the right to append -/
def isRw0 (c : Ctx) (o : Oper) : Operand → Bool
  | .const (.int _ z) => match o.dst with
    | some d => match look c.own d with
      | some (.mr _ _) => false
      | _ => decide (z = 0)
    | none => false
  | _ => false

def bnd (S : St) (d : Int) : Option Operand → Option Int
  | none => some d
  | some y => match S.get y with | .v (.int _) a => some a | _ => none
def sliceV (c : Ctx) (tx : Nat) (S : St) (x : Operand) (lo hi : Option Operand) (kk : D → Option R) : Option R := match S.get x with
  | .v .str l => bif isTy c tx .str then match bnd S 0 lo, bnd S (List.length l : Int) hi with
    | some a, some b => (sub l a b).bind fun r => kk (vStr r)
    | _, _ => none
    else none
  | .v (.sl t) l => bif isTy c tx (.sl t) then match bnd S 0 lo, bnd S (List.length l : Int) hi with
    | some a, some b => (sub l a b).bind fun r => kk (.v (.sl t) r)
    | _, _ => none
    else none
  | _ => none

def lenV (c : Ctx) (tx : Nat) (S : St) (kk : D → Option R) : D → Option R
  | .v (.sl t) l => bif isTy c tx (.sl t) then kk (vInt .i64 (List.length l)) else none
  | .v .str l => bif isTy c tx .str then kk (vInt .i64 (List.length l)) else none
  | .nils => match look c.ty tx with | some ⟨.sl _, _, _⟩ => kk (vInt .i64 0) | _ => none
  | .aref j p off => match S.at j p off with
    | some ⟨.mr _ t, l⟩ => bif isTy c tx (.sl t) then kk (vInt .i64 (List.length l)) else none
    | _ => none
  | _ => none

/-- the operands of a call, as values -/
def argsV (S : St) : (ps : List Par) → List Operand → Option (prodT (ps.map Par.ty))
  | [], [] => some ()
  | [p], [x] => asTy p.ty (S.get x)
  | p :: b :: r, x :: xs => match asTy p.ty (S.get x), argsV S (b :: r) xs with | some y, some z => some (y, z) | _, _ => none
  | _, _ => none
def Ty.flat : Ty → Bool
  | .int _ => true | .bool => true | .str => true | .unit => true | .st t => t.flat | .pr a b => a.flat && b.flat | _ => false
def Ty.plain (t : Ty) : Bool := t.flat && t.top
def Par.frz : Par → Bool
  | .val t => decide (t = t.er)
  | _ => false
/-- takes and yields plain values alone -/
def Entry.plain (e : Entry) : Bool := e.ps.all Par.frz && e.rs.all Ty.plain

def moveV (d : D) (kk : D → Option R) : Option R := match d with
  | .und => none
  | d => kk d
def valE (c : Ctx) (o : Op) (S : St) (kk : D → Option R) : Option R :=
  match o with
  | .move x => moveV (S.get x) kk
  | .assign x => moveV (S.get x) kk
  | .pick a x y => pickE (S.get a) (S.get x) (S.get y) kk
  | .nilCheck x => match S.get x with
    | .ref j p off => kk (.ref j p off)
    | .fro t y => kk (.fro t y)
    | .ael j p off n z q qo => kk (.ael j p off n z q qo)
    | .v (.ptr t) y => kk (.v (.ptr t) y)
    | _ => none
  | .binOp op tx x y _ => match op, y, S.get x with
    | .eql, .const .nilIface, .v (.eb _ _) a => match look c.ty tx with | some ⟨.eb _ _, _, _⟩ => kk (vBool (Option.isNone a)) | _ => none
    | .neq, .const .nilIface, .v (.eb _ _) a => match look c.ty tx with | some ⟨.eb _ _, _, _⟩ => kk (vBool (Option.isSome a)) | _ => none
    | op, y, dx => binE (isTy c tx .bool) op dx (S.get y) kk
  | .unOp op _ x => unE op (S.get x) kk
  | .convert s t x => match look c.ty s, look c.ty t, S.get x with
    | some _, some ⟨.int k', _, _⟩, .v (.int _) a => kk (vInt k' (k'.wrap a))
    | some ⟨.sl (.int .u8), _, _⟩, some ⟨.str, _, _⟩, .v (.sl (.int .u8)) l => kk (vStr (bytesU l))
    | _, _, _ => none
  | .extract x i => match S.get x with
    | .tup l => match l[i]? with
      | some ⟨t, y⟩ => bif t.top then match coe t t.er y with | some y' => kk (.v t.er y') | none => none else none
      | none => none
    | _ => none
  | .load t a => loadV c S t kk (S.get a)
  | .build t parts => match look c.ty t with
    | some ⟨.st t', _, _⟩ => match zero t' with
      | some z => match buildP S t' parts.toList z with | some y => kk (.v (.st t') y) | none => none
      | none => none
    | _ => none
  | .slice tx x lo hi mx => match mx with
    | none => sliceV c tx S x lo hi kk
    | some _ => none
  | .fieldAddr s x f => match look c.ty s with
    | some ⟨.st t, _, 0⟩ => bif Nat.blt f (nf t) then match S.get x with
      | .ref j p off => kk (.ref j (p ++ .i :: fpath t f) (off + offP (.st t) (.i :: fpath t f)))
      | .fro t' y => if t' = .st t then match getP t' (.i :: fpath t f) y with | some ⟨s, z⟩ => kk (.fro s z) | none => none else none
      | .v (.ptr t') y => if t' = .st t then match getP t' (.i :: fpath t f) y with | some ⟨s, z⟩ => kk (.fro s z) | none => none else none
      | .ael j p off n z q qo => kk (.ael j p off n z (q ++ .i :: fpath t f) (qo + offP (.st t) (.i :: fpath t f)))
      | _ => none
      else none
    | _ => none
  | .indexAddr tx x i => match S.get i with
    | .v (.int _) i => match S.get x with
      | .v (.sl t) l => bif isTy c tx (.sl t) then (idx l i).bind fun e => kk (.fro t e) else none
      | .aref j p off => match S.at j p off with
        | some ⟨.mr _ t, l⟩ => bif isTy c tx (.sl t) then (chk (List.length l) i).bind fun n => kk (.ael j p off n t.size [] 0) else none
        | _ => none
      | _ => none
    | _ => none
  | .index tx x i => match S.get x, S.get i with
    | .v .str l, .v (.int _) i => bif isTy c tx .str then (idx l i).bind fun b => kk (vInt .u8 (b.toNat : Int)) else none
    | .v (.st t) y, .v (.int _) i => match look c.ty tx with
      | some ⟨.st t', _, n + 1⟩ => match arEl t' with
        | some a => bif a.top then (if h : t = arT a (n + 1) then if t' = t then (idx (arL a (n + 1) (h ▸ y : (arT a (n + 1)).den)) i).bind fun e => kk (.v a e) else none else none) else none
        | none => none
      | _ => none
    | _, _ => none
  | .makeInterface t x => match look c.ty t, S.get x with
    | some ⟨.ptr t', _, _⟩, .v (.ptr t'') y => if t'' = t' then kk (.v (.eb t t'') (some y : Option t''.den)) else none
    | _, _ => none
  | .call cl => match cl.callee with
    | .builtin .len => match cl.args.toList, cl.argTypes.toList with
      | [x], [t] => lenV c t S kk (S.get x)
      | _, _ => none
    | .builtin .max => match cl.args.toList with
      | [x, y] => match S.get x, S.get y with
        | .v (.int k1) a, .v (.int k2) b => if k1 = k2 then kk (vInt k1 (max (a : Int) b)) else none
        | _, _ => none
      | _ => none
    | .builtin .min => match cl.args.toList with
      | [x, y] => match S.get x, S.get y with
        | .v (.int k1) a, .v (.int k2) b => if k1 = k2 then kk (vInt k1 (min (a : Int) b)) else none
        | _, _ => none
      | _ => none
    | .value f => match S.get f with
      | .fn f => match look c.fn f with
        | some e => bif e.plain then match argsV S e.ps cl.args.toList with
            | some z => (e.f z).bind fun r => kk (tupD ((unProd (e.rs ++ outs e.ps) r).take e.rs.length))
            | none => none
          else none
        | none => none
      | _ => none
    | _ => none
  | _ => none

/-! ### Operations that turn more -/
def out (c : Ctx) (o : Oper) (S : St) (x : D) (k : St → Option R) : Option R := match o.dst with
  | some d => bif Nat.blt d c.n then k (S.put d x) else none
  | none => k S
/-- a new object, and the slot that shows it -/
def newO (c : Ctx) (d : Nat) (ob : Ob) (x : D) (S : St) (k : St → Option R) : Option R := match look S.objs d with
  | none => bif Nat.blt d c.n then k ⟨putl (killJ d S.env) d x, (d, ob) :: S.objs⟩ else none
  | some _ => none
def newA (c : Ctx) (d : Nat) (el : Nat) (t : Ty) (l : List t.den) (S : St) (k : St → Option R) : Option R := newO c d ⟨none, .mr el t, l⟩ (.aref d [] 0) S k

/-- a slot's value with its rights -/
def moveT (c : Ctx) (o : Oper) (S : St) (x : Operand) (k : St → Option R) : Option R := match o.dst with
  | some d => match S.raw x, look c.own d with
    | .nils, some (.mr el t) => newA c d el t [] S k
    | .nils, some (.rw el t) => out c o S (.v (.rw el t) ([] : List t.den)) k
    | .v t y, _ => out c o (S.strip x) (.v t y) k
    | .tup l, _ => out c o (S.strip x) (.tup l) k
    | _, _ => none
  | none => none
def loadT (c : Ctx) (o : Oper) (S : St) (tid : Nat) (k : St → Option R) : D → Option R
  | .ref j p off => match S.atC j p off, look c.ty tid with
    | some ⟨t, y⟩, some i => if t.er = i.ty then bif t.top then
          match coe t t.er y with
          | some y' => match S.setO j p off ⟨t.er, y'⟩ with
            | some S' => out c o S' (.v t y) k
            | none => none
          | none => none
        else none
      else none
    | _, _ => none
  | _ => none
def extractT (c : Ctx) (o : Oper) (S : St) (x : Operand) (i : Nat) (k : St → Option R) : Option R := match x with
  | .tmp s => match look S.env s with
    | some (.tup l) => match l[i]? with
      | some ⟨t, y⟩ => bif t.top then match coe t t.er y with
          | some y' => out c o (S.put s (.tup (l.set i ⟨t.er, y'⟩))) (.v t y) k
          | none => none
        else none
      | none => none
    | _ => none
  | _ => none

/-- 'nil' stored where a slice stands -/
def nilAt : Ty → Option Dn
  | .dead el a => some ⟨.mr el a, ([] : List a.den)⟩
  | .sl a => some ⟨.sl a, ([] : List a.den)⟩
  | .rw el a => some ⟨.rw el a, ([] : List a.den)⟩
  | .mr el a => some ⟨.mr el a, ([] : List a.den)⟩
  | _ => none
def setK (S : St) (j : Nat) (p : List Dir) (off : Nat) (y : Dn) (k : St → Option R) : Option R := match S.atC j p off, S.setO j p off y with
  | some _, some S' => k S'
  | _, _ => none
def storeT (c : Ctx) (tid : Nat) (S : St) (x : Operand) (k : St → Option R) : D → Option R
  | .ref j p off => match S.raw x, look c.ty tid with
    | .aref j' p' o', some i => match S.takeA j' p' o' with
      | some (y, S') => if y.1.er = i.ty then setK S' j p off y k else none
      | none => none
    | .nils, some i => match S.atC j p off with
      | some ⟨t, _⟩ => if t.er = i.ty then match nilAt t with | some y => setK S j p off y k | none => none else none
      | none => none
    | .v t y, some i => if t.er = i.ty then setK (S.strip x) j p off ⟨t, y⟩ k else none
    | d, some i => match asTy i.ty d with
      | some y => setK S j p off ⟨i.ty, y⟩ k
      | none => none
    | _, none => none
  | .ael j p off n sz q qo => match look S.objs j, look c.ty tid with
    | some ob, some i => match S.at j p off, asTy i.ty (S.get x) with
      | some ⟨.mr el t, l⟩, some y => bif Nat.beq t.size sz && Nat.beq (offP t q) qo then (nth l n).bind fun e => match setP t q ⟨i.ty, y⟩ e with
        | some ⟨t', e'⟩ => if h : t' = t then match setP ob.t p ⟨.mr el t, l.set n (h ▸ e')⟩ ob.x with
            | some z => k ⟨S.env, putl S.objs j ⟨ob.tid, z.1, z.2⟩⟩
            | none => none
          else none
        | none => none
        else none
      | _, _ => none
    | _, _ => none
  | _ => none

def boxT (c : Ctx) (d tid : Nat) (S : St) (x : Operand) (k : St → Option R) : Option R := match look c.ty tid with
  | some i => match S.raw x, look c.own d with
    | .v ty y, _ => if ty.er = i.ty then newO c d ⟨some tid, ty, y⟩ (.ref d [] 0) (S.strip x) k else none
    | .nils, some ty => if ty.er = i.ty then match nilAt ty with | some y => newO c d ⟨some tid, y.1, y.2⟩ (.ref d [] 0) S k | none => none else none
    | e, _ => match asTy i.ty e with | some y => newO c d ⟨some tid, i.ty, y⟩ (.ref d [] 0) S k | none => none
  | none => none

def consP {a : Ty} : (r : List Ty) → a.den → prodT r → prodT (a :: r)
  | [], x, _ => x
  | _ :: _, x, y => (x, y)
def headP {a : Ty} : (r : List Ty) → prodT (a :: r) → a.den
  | [], x => x
  | _ :: _, x => x.1
def tailP {a : Ty} : (r : List Ty) → prodT (a :: r) → prodT r
  | [], _ => ()
  | _ :: _, x => x.2
/-- the operands of a call, one by one -/
def usesE (S : St) : List Par → List Operand → Option (List D × St)
  | [], [] => some ([], S)
  | .val t :: r, x :: xs => match S.use (decide (t ≠ t.er)) x with
    | some (d, S1) => match usesE S1 r xs with | some (ds, S2) => some (d :: ds, S2) | none => none
    | none => none
  | .cfn _ :: r, x :: xs => match S.raw x with
    | .fn g => match usesE S r xs with | some (ds, S2) => some (.fn g :: ds, S2) | none => none
    | _ => none
  | .obj _ _ _ _ :: r, x :: xs => match S.raw x with
    | .ref j p o => match usesE S r xs with | some (ds, S2) => some (.ref j p o :: ds, S2) | none => none
    | _ => none
  | _, _ => none
/-- what they are to the callee; the objects that are handed over -/
def packE (S : St) : (ps : List Par) → List D → Option (prodT (ps.map Par.ty) × List (Nat × Nat))
  | [], [] => some ((), [])
  | .val t :: r, d :: ds => match asTy t d, packE S r ds with
    | some y, some (z, js) => some (consP _ y z, js)
    | _, _ => none
  | .cfn g :: r, d :: ds => match d, packE S r ds with
    | .fn g', some (z, js) => bif Nat.beq g g' then some (consP (a := .unit) _ () z, js) else none
    | _, _ => none
  | .obj tid t _ p :: r, d :: ds => match d, packE S r ds with
    | .ref j _ o, some (z, js) => match look S.objs j with
      | some ob => if ob.tid = some tid then match coe ob.t t ob.x with
          | some y => bif mem j (js.map (·.1)) then none else bif Nat.beq o (offP t p) then some (consP _ y z, (j, tid) :: js) else none
          | none => none
        else none
      | none => none
    | _, _ => none
  | _, _ => none
def argsE (S : St) (ps : List Par) (xs : List Operand) : Option (prodT (ps.map Par.ty) × List (Nat × Nat) × St) := match usesE S ps xs with
  | some (ds, S1) => match packE S1 ps ds with | some (z, js) => some (z, js, S1) | none => none
  | none => none
/-- slots that show an object's part no longer do -/
def killA (j : Nat) : List (Nat × D) → List (Nat × D)
  | [] => []
  | (k, .aref j' p o') :: r => (k, bif Nat.beq j j' then .und else .aref j' p o') :: killA j r
  | (k, .ael j' p o' m z q qo) :: r => (k, bif Nat.beq j j' then .und else .ael j' p o' m z q qo) :: killA j r
  | (k, d) :: r => (k, d) :: killA j r
/-- what the call left in the objects -/
def backE (S : St) : List (Nat × Nat) → List Dn → Option St
  | [], [] => some S
  | (j, tid) :: js, y :: ys => backE ⟨killA j S.env, putl S.objs j ⟨some tid, y.1, y.2⟩⟩ js ys
  | _, _ => none

def sliceT (c : Ctx) (tx : Nat) (o : Oper) (S : St) (x : Operand) (lo hi : Option Operand) (k : St → Option R) : Option R := match S.raw x, o.dst with
  | .aref j p off, some d => bif mem d c.tk then match lo, S.takeA j p off with
      | none, some (⟨.mr el t, l⟩, S') => bif isTy c tx (.sl t) then match bnd S (List.length l : Int) hi with
        | some b => (sub l 0 b).bind fun r => newA c d el t r S' k
        | none => none
        else none
      | _, _ => none
    else match S.open_ j p off with
      | some (⟨.sl t, l⟩, S') => bif isTy c tx (.sl t) then match bnd S 0 lo, bnd S (List.length l : Int) hi with
        | some a, some b => (sub l a b).bind fun r => out c o S' (.v (.sl t) r) k
        | _, _ => none
        else none
      | _ => none
  | _, _ => none

def appSrc (c : Ctx) (t2 : Nat) (S : St) (t : Ty) (y : Operand) : Option (List t.den) := match S.get y with
  | .v .str m => bif isTy c t2 .str then match t with | .int .u8 => some (bytesI m) | _ => none else none
  | .aref j p off => match S.at j p off with
    | some ⟨.mr _ t', m⟩ => if h : t' = t then (bif isTy c t2 (.sl t) then some (h ▸ m : List t.den) else none) else none
    | _ => none
  | d => bif isTy c t2 (.sl t) then (asTy (.sl t) d : Option (List t.den)) else none
def appendT (c : Ctx) (o : Oper) (S : St) (x y : Operand) (tid t2 : Nat) (k : St → Option R) : Option R := match look c.ty tid with
  | some ⟨.sl t, el, sz⟩ => match appSrc c t2 S t y with
    | none => none
    | some m => match S.raw x with
      | .v (.rw el' t') l => if h : t' = t then (bif Nat.beq el' el then (app sz (h ▸ l : List t.den) m).bind fun r => out c o (S.strip x) (.v (.rw el t) r) k else none) else none
      | .nils => match o.dst with
        | some d => match look c.own d with
          | some (.mr _ _) => (app sz ([] : List t.den) m).bind fun r => newA c d el t r S k
          | _ => (app sz ([] : List t.den) m).bind fun r => out c o S (.v (.rw el t) r) k
        | none => none
      | .aref j p off => match o.dst, S.takeA j p off with
        | some d, some (⟨.mr el' t', l⟩, S') => if h : t' = t then (bif Nat.beq el' el then (app sz (h ▸ l : List t.den) m).bind fun r => newA c d el t r S' k else none) else none
        | _, _ => none
      | _ => none
  | _ => none

def effE (c : Ctx) (o : Oper) (S : St) (k : St → Option R) : Option R :=
  match o.op with
  | .move x => moveT c o S x k
  | .assign x => moveT c o S x k
  | .extract x i => extractT c o S x i k
  | .load t a => loadT c o S t k (S.get a)
  | .store t a x => match o.dst with
    | none => storeT c t S x k (S.get a)
    | some _ => none
  | .alloc t => match o.dst, look c.ty t with
    | some d, some i => match look c.own d with
      | some ty => if ty.er = i.ty then match zero ty with | some z => newO c d ⟨some t, ty, z⟩ (.ref d [] 0) S k | none => none else none
      | none => match zero i.ty with | some z => newO c d ⟨some t, i.ty, z⟩ (.ref d [] 0) S k | none => none
    | _, _ => none
  | .box t x => match o.dst with
    | some d => boxT c d t S x k
    | none => none
  | .buildSlice t n parts => match look c.ty t with
    | some ⟨.sl t', el, sz⟩ => bif Nat.beq n parts.size && Nat.ble (n * t'.size) 16777216 then match elemsP S t' 0 parts.toList with
        | some l => out c o S (.v (.rw el t') l) k
        | none => none
      else none
    | _ => none
  | .makeSlice t n m => bif isRw0 c o n then match look c.ty t, S.get n, S.get m with
      | some ⟨.sl t', el, sz⟩, .v (.int _) a, .v (.int _) b => match zero t' with
        | some _ => if a = 0 then (made0 sz b).bind fun l => out c o S (.v (.rw el t') l) k else none
        | none => none
      | _, _, _ => none
    else match look c.ty t, S.get n, S.get m, o.dst with
    | some ⟨.sl t', el, sz⟩, .v (.int _) a, .v (.int _) b, some d => match zero t' with
      | some z => (made sz z a b).bind fun l => newA c d el t' l S k
      | none => none
    | _, _, _, _ => none
  | .slice tx x lo hi mx => match mx with
    | none => sliceT c tx o S x lo hi k
    | some _ => none
  | .makeInterface t x => match look c.ty t, S.raw x with
    | some ⟨.ptr t', _, _⟩, .ref j [] 0 => match look S.objs j with
      | some ob => if ob.t.er = t' then match ob.tid with
          | some _ => match coe ob.t ob.t.er ob.x with
            | some y => out c o ⟨killJ j S.env, dell S.objs j⟩ (.v (.eb t ob.t.er) (some y : Option ob.t.er.den)) k
            | none => none
          | none => none
        else none
      | none => none
    | _, _ => none
  | .call cl => match cl.callee with
    | .builtin .append => match cl.args.toList, cl.argTypes.toList with
      | [x, y], [t, t2] => appendT c o S x y t t2 k
      | _, _ => none
    | .value f => match S.get f with
      | .fn f => match look c.fn f with
        | some e => match argsE S e.ps cl.args.toList with
          | some (z, js, S1) => (e.f z).bind fun r => match backE S1 js ((unProd (e.rs ++ outs e.ps) r).drop e.rs.length) with
            | some S2 => out c o S2 (tupD ((unProd (e.rs ++ outs e.ps) r).take e.rs.length)) k
            | none => none
          | none => none
        | none => none
      | _ => none
    | _ => none
  | _ => none

/-- whether an operation leaves all but its slot as it is -/
def valOk (c : Ctx) (o : Oper) : Bool := match o.dst with
  | none => false
  | some d => bif mem d c.tk then false else bif mem d c.ef then false else match o.op with
    | .move _ => match look c.own d with | some _ => false | none => true
    | .assign _ => match look c.own d with | some _ => false | none => true
    | .pick _ _ _ => true | .nilCheck _ => true | .binOp _ _ _ _ _ => true | .unOp _ _ _ => true | .convert _ _ _ => true
    | .extract _ _ => true | .load _ _ => true | .build _ _ => true | .slice _ _ _ _ _ => true | .fieldAddr _ _ _ => true | .indexAddr _ _ _ => true | .index _ _ _ => true | .makeInterface _ _ => true
    | .call cl => match cl.callee with
      | .builtin .len => true
      | .builtin .max => true
      | .builtin .min => true
      | .value (.func f) => match look c.fn f with | some e => e.plain | none => false
      | _ => false
    | _ => false
def opE (c : Ctx) (o : Oper) (S : St) (k : St → Option R) : Option R :=
  bif valOk c o then valE c o.op S fun d => out c o S d k else effE c o S k

def dstOf (ops : List Oper) (j : Nat) : Option Nat := match ops[j]? with | some o => o.dst | none => none
def opsE (c : Ctx) (all : List Oper) : List Oper → St → (St → Option R) → Option R
  | [], S, k => k S
  | o :: r, S, k => match o.guard with
    | none => opE c o S fun S' => opsE c all r S' k
    | some (j, want) => match dstOf all j, o.dst with
      | some s, some d => match look S.env s with
        | some (.v .bool b) => bif (bif want then b else !b) then opE c o (S.put s (vBool want)) (fun S' => opsE c all r S' k) else (bif Nat.blt d c.n then opsE c all r ((S.put s (vBool (!want))).put d .udf) k else none)
        | some .udf => bif Nat.blt d c.n then opsE c all r (S.put d .udf) k else none
        | _ => none
      | _, _ => none
end
end Go.Lf
