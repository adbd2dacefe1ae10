/-
  Code: pieces in sequence, tests, blocks, loops; where ways meet, what goes on is said once.
-/
import Derived.Test.YtkfcinmgebhbhaaDoorQEv
namespace Go.Lf
open Go

inductive Ex where | nrm | ret | ext (i : Nat)

/-- the slots that a piece of code writes -/
def dsts : Code → List Nat
  | .region _ ops _ => ops.toList.filterMap (·.dst)
  | .seq a b => dsts a ++ dsts b
  | .cond _ a b => dsts a ++ dsts b
  | .block _ a => dsts a
  | .loop a => dsts a
  | .scope a => dsts a
  | _ => []

/-- What goes on behind a piece of code: slots that stay as they are, slots that show objects, slots with their types, objects with their types. -/
structure Shape where
  keep : List Nat
  ref : List (Nat × Nat × List Dir × Nat)
  var : List (Nat × Ty)
  obj : List (Nat × Nat × Ty)
def Shape.tys (s : Shape) : List Ty := s.var.map (·.2) ++ s.obj.map (·.2.2)

def nodupB : List Nat → Bool
  | [] => true
  | k :: r => bif mem k r then false else nodupB r
def dirsB : List Dir → List Dir → Bool
  | [], [] => true
  | .i :: r, .i :: q => dirsB r q
  | .l :: r, .l :: q => dirsB r q
  | .r :: r, .r :: q => dirsB r q
  | _, _ => false
def refsB (S : St) : List (Nat × Nat × List Dir × Nat) → Bool
  | [] => true
  | (k, j, p, o) :: r => match look S.env k with
    | some (.ref j' p' o') => bif Nat.beq j j' && Nat.beq o o' && dirsB p p' then refsB S r else false
    | _ => false
/-- the slices' heads that slots show -/
def mrsOf (S : St) : List (Nat × Ty) → List Nat
  | [] => []
  | (k, .mr _ _) :: r => match look S.env k with
    | some (.aref j _ _) => j :: mrsOf S r
    | _ => mrsOf S r
  | _ :: r => mrsOf S r
def mrKeys : List (Nat × Ty) → List Nat
  | [] => []
  | (k, .mr _ _) :: r => k :: mrKeys r
  | _ :: r => mrKeys r

/-- a slot's value for a shape -/
def varOf (S : St) (k : Nat) : (t : Ty) → Option t.den
  | .mr el a => match look S.env k with
    | some (.aref j [] 0) => match look S.objs j with
      | some ⟨none, t', l⟩ => if h : t' = .mr el a then some (h ▸ l : (Ty.mr el a).den) else none
      | _ => none
    | _ => none
  | t => match look S.env k with
    | some d => bif t.top then asTy t d else none
    | none => none
def objOf (S : St) (j : Nat) (tid : Nat) (t : Ty) : Option t.den := match look S.objs j with
  | some ⟨some tid', t', x⟩ => bif Nat.beq tid' tid then coe t' t x else none
  | _ => none
def getO (S : St) : (l : List (Nat × Nat × Ty)) → Option (prodT (l.map (·.2.2)))
  | [] => some ()
  | (j, tid, t) :: r => match objOf S j tid t, getO S r with
    | some x, some y => some (consP _ x y)
    | _, _ => none
def getV (S : St) (o : List (Nat × Nat × Ty)) : (l : List (Nat × Ty)) → Option (prodT (l.map (·.2) ++ o.map (·.2.2)))
  | [] => getO S o
  | (k, t) :: r => match varOf S k t, getV S o r with
    | some x, some y => some (consP _ x y)
    | _, _ => none
def Shape.ok (s : Shape) : Bool := nodupB (s.var.map (·.1) ++ s.ref.map (·.1)) && nodupB (mrKeys s.var ++ s.obj.map (·.1))
def Shape.get (s : Shape) (S : St) : Option (prodT s.tys) := bif s.ok && nodupB (mrsOf S s.var ++ s.obj.map (·.1)) && refsB S s.ref then getV S s.obj s.var else none
def putO : (l : List (Nat × Nat × Ty)) → prodT (l.map (·.2.2)) → List (Nat × Ob)
  | [], _ => []
  | (j, tid, t) :: r, z => (j, ⟨some tid, t, headP _ z⟩) :: putO r (tailP _ z)
def putV (o : List (Nat × Nat × Ty)) : (l : List (Nat × Ty)) → prodT (l.map (·.2) ++ o.map (·.2.2)) → St
  | [], z => ⟨[], putO o z⟩
  | (k, .mr el a) :: r, z => ⟨(k, .aref k [] 0) :: (putV o r (tailP _ z)).env, (k, ⟨none, .mr el a, headP _ z⟩) :: (putV o r (tailP _ z)).objs⟩
  | (k, t) :: r, z => ⟨(k, .v t (headP _ z)) :: (putV o r (tailP _ z)).env, (putV o r (tailP _ z)).objs⟩
def D.still : D → Bool
  | .v t _ => decide (t = t.er)
  | .fro _ _ => true
  | .fn _ => true
  | .nils => true
  | .nilp => true
  | .niI => true
  | _ => false
/-- slots that may stay: no rights, no objects -/
def keepE (dead : List Nat) : List Nat → List (Nat × D) → List (Nat × D)
  | [], _ => []
  | k :: r, e => bif mem k dead then keepE dead r e else match look e k with
    | some d => bif d.still then (k, d) :: keepE (k :: dead) r e else keepE dead r e
    | none => keepE dead r e
def refE : List (Nat × Nat × List Dir × Nat) → List (Nat × D)
  | [] => []
  | (k, j, p, o) :: r => (k, .ref j p o) :: refE r
def Shape.mk' (s : Shape) (dead : List Nat) (S : St) (z : prodT s.tys) : St :=
  ⟨keepE (dead ++ (s.var.map (·.1) ++ s.ref.map (·.1))) s.keep S.env ++ (refE s.ref ++ (putV s.obj s.var z).env), (putV s.obj s.var z).objs⟩

/-- How a piece of code may end, with what goes on behind each end. -/
inductive Ways where
  | one (x : Ex) (s : Shape)
  | more (x : Ex) (s : Shape) (w : Ways)
def Ways.T : Ways → Type
  | .one _ s => prodT s.tys
  | .more _ s w => prodT s.tys ⊕ w.T
def Ex.eq : Ex → Ex → Bool
  | .nrm, .nrm => true
  | .ret, .ret => true
  | .ext i, .ext j => Nat.beq i j
  | _, _ => false
def Ways.enc : (w : Ways) → Ex → St → Option w.T
  | .one x s, y, S => bif x.eq y then s.get S else none
  | .more x s w, y, S => bif x.eq y then (match s.get S with | some z => some (.inl z) | none => none) else (match w.enc y S with | some z => some (.inr z) | none => none)

inductive Ann where
  | no
  | seq (a b : Ann)
  | cnd (a b : Ann)
  | draw (n : Nat)
  | join (w : Ways) (a : Ann)
  | loop (s : Shape) (w : Ways) (a : Ann)
def Ann.l : Ann → Ann | .seq a _ => a | .cnd a _ => a | a => a
def Ann.r : Ann → Ann | .seq _ b => b | .cnd _ b => b | a => a

noncomputable def iter {σ κ : Type} (B : σ → Option (σ ⊕ κ)) : Nat → σ → Option κ
  | 0, _ => none
  | n + 1, z => (B z).bind fun | .inl z' => iter B n z' | .inr k => some k
open Classical in
noncomputable def loopC {σ κ : Type} (B : σ → Option (σ ⊕ κ)) (z : σ) : Option κ :=
  if h : ∃ k n, iter B n z = some k then some (Classical.choose h) else none

/-- the slots that heads write lose their rights -/
def strips : List Oper → List (Nat × D) → List (Nat × D)
  | [], e => e
  | o :: r, e => match o.dst with
    | some d => match look e d with
      | some x => strips r (putl e d x.peek)
      | none => strips r e
    | none => strips r e

section
variable {R : Type}
def Ways.dec (dead : List Nat) (S : St) (k : Ex → St → Option R) : (w : Ways) → w.T → Option R
  | .one x s, z => k x (s.mk' dead S z)
  | .more x s w, z => match z with
    | .inl z => k x (s.mk' dead S z)
    | .inr z => w.dec dead S k z

/-- an operation that turns nothing but rights -/
def moveH (c : Ctx) (o : Oper) : Bool := match o.dst with
  | none => false
  | some d => bif valOk c o then false else match look c.own d with
    | some (.mr _ _) => false
    | _ => match o.op with | .move _ => true | .assign _ => true | .load _ _ => true | _ => false
def drawB (c : Ctx) (n : Nat) (ops : List Oper) : Bool := (Eng.headOk ops n || Eng.headOkB ops n) && (ops.take n).all fun o => valOk c o || moveH c o
def regE (c : Ctx) (ops : List Oper) (dr : Bool) (an : Ann) (S : St) (k : Ex → St → Option R) : Option R :=
  bif dr then match an with
    | .draw n => bif drawB c n ops then opsE c ops ops ⟨strips (ops.take n) S.env, S.objs⟩ (k .nrm) else none
    | _ => none
  else opsE c ops ops S (k .nrm)
def condE (S : St) (x : Operand) (f g : Option R) : Option R := match S.get x with
  | .v .bool b => bif b then f else g
  | _ => none
def seqK (f : St → Option R) (k : Ex → St → Option R) : Ex → St → Option R
  | .nrm, S => f S
  | x, S => k x S
def blkK (i : Nat) (k : Ex → St → Option R) : Ex → St → Option R
  | .ext j, S => bif Nat.beq j i then k .nrm S else k (.ext j) S
  | x, S => k x S
def loopK (s : Shape) (w : Ways) : Ex → St → Option (prodT s.tys ⊕ w.T)
  | .nrm, S => match s.get S with | some z => some (.inl z) | none => none
  | x, S => match w.enc x S with | some z => some (.inr z) | none => none
/-- the ways of a piece of code meet: what goes on is said once -/
def wrap (dead : List Nat) (S : St) (an : Ann) (base : (R : Type) → Ann → (Ex → St → Option R) → Option R) (k : Ex → St → Option R) : Option R := match an with
  | .join w a => (base w.T a w.enc).bind fun z => w.dec dead S k z
  | a => base R a k
end
noncomputable def codeE (c : Ctx) : Code → Ann → (R : Type) → St → (Ex → St → Option R) → Option R
  | .skip, _, _, S, k => k .nrm S
  | .exit i, _, _, S, k => k (.ext i) S
  | .ret, _, _, S, k => k .ret S
  | .label _, _, _, S, k => k .nrm S
  | .region i ops dr, an, _, S, k => wrap (dsts (.region i ops dr)) S an (fun _ a k => regE c ops.toList dr a S k) k
  | .seq a b, an, _, S, k => wrap (dsts (.seq a b)) S an (fun R an k => codeE c a an.l R S (seqK (fun S' => codeE c b an.r R S' k) k)) k
  | .cond x a b, an, _, S, k => wrap (dsts (.cond x a b)) S an (fun R an k => condE S x (codeE c a an.l R S k) (codeE c b an.r R S k)) k
  | .block i a, an, _, S, k => wrap (dsts (.block i a)) S an (fun R an k => codeE c a an R S (blkK i k)) k
  | .scope a, an, _, S, k => wrap (dsts (.scope a)) S an (fun R an k => codeE c a an R S k) k
  | .loop a, .loop s w an, _, S, k => match s.get S with
    | none => none
    | some z0 => (loopC (fun z : prodT s.tys => codeE c a an (prodT s.tys ⊕ w.T) (s.mk' (dsts (.loop a)) S z) (loopK s w)) z0).bind fun z => w.dec (dsts (.loop a)) S k z
  | _, _, _, _, _ => none

/-- what a function's parameters are at first -/
def enterE : Nat → (ps : List Par) → prodT (ps.map Par.ty) → St
  | _, [], _ => ⟨[], []⟩
  | i, .val t :: r, z => ⟨(i, .v t (headP _ z)) :: (enterE (i + 1) r (tailP _ z)).env, (enterE (i + 1) r (tailP _ z)).objs⟩
  | i, .cfn g :: r, z => ⟨(i, .fn g) :: (enterE (i + 1) r (tailP _ z)).env, (enterE (i + 1) r (tailP _ z)).objs⟩
  | i, .obj tid t _ p :: r, z => ⟨(i, .ref i p (offP t p)) :: (enterE (i + 1) r (tailP _ z)).env, (i, ⟨some tid, t, headP _ z⟩) :: (enterE (i + 1) r (tailP _ z)).objs⟩
/-- what the function leaves in the objects that were handed to it -/
def outE (dead : List Nat) (S : St) : Nat → (ps : List Par) → Option (prodT (outs ps))
  | _, [] => some ()
  | i, .val _ :: r => outE dead S (i + 1) r
  | i, .cfn _ :: r => outE dead S (i + 1) r
  | i, .obj tid _ t' _ :: r => match look S.env i with
    | some (.ref j _ _) => bif Nat.beq j i then bif mem i dead then none else match objOf S i tid t', outE dead S (i + 1) r with
      | some x, some y => some (consP _ x y)
      | _, _ => none
      else none
    | _ => none
def finE (dead : List Nat) (S : St) (ps : List Par) : (l : List Ty) → List D → Option (prodT (l ++ outs ps))
  | [], [] => outE dead S 0 ps
  | t :: l, d :: ds => match asTy t d, finE dead S ps l ds with
    | some x, some y => some (consP _ x y)
    | _, _ => none
  | _, _ => none
/-- a result that stands in a variable -/
def cellE (c : Ctx) (S : St) (take : Bool) (s ty : Nat) : Option (D × St) := match S.get (.tmp s) with
  | .ref j p off => match S.atC j p off, look c.ty ty with
    | some ⟨.mr el t, _⟩, some i => if (Ty.mr el t).er = i.ty then match S.open_ j p off with | some (y, S') => some (.v y.1 y.2, S') | none => none else none
    | some ⟨t, y⟩, some i => if t.er = i.ty then bif t.top then match coe t t.er y with
        | some y' => match S.setO j p off ⟨t.er, y'⟩ with
          | some S' => bif take then some (.v t y, S') else some (.v t.er y', S)
          | none => none
        | none => none
        else none
      else none
    | _, _ => none
  | _ => none
def resE (c : Ctx) (S : St) : List Ty → List ResultVar → Option (List D × St)
  | [], [] => some ([], S)
  | t :: ts, .tmp s :: r => match S.use (decide (t ≠ t.er)) (.tmp s) with
    | some (d, S1) => match resE c S1 ts r with | some (ds, S2) => some (d :: ds, S2) | none => none
    | none => none
  | t :: ts, .cell s ty :: r => match cellE c S (decide (t ≠ t.er)) s ty with
    | some (d, S1) => match resE c S1 ts r with | some (ds, S2) => some (d :: ds, S2) | none => none
    | none => none
  | _, _ => none
/-- A function: its results stand in slots, or in variables. -/
noncomputable def fnE (c : Ctx) (code : Code) (an : Ann) (ps : List Par) (rs : List Ty) (slots : List ResultVar) (z : prodT (ps.map Par.ty)) : Option (prodT (rs ++ outs ps)) :=
  codeE c code an _ (enterE 0 ps z) fun x S => match x with
    | .ext _ => none
    | _ => match resE c S rs slots with
      | some (ds, S1) => finE (dsts code) S1 ps rs ds
      | none => none
end Go.Lf
