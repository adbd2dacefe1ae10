/-
  The engine's operations: one lemma for each kind.
-/
import Derived.Test.YtkfcinmgebhbhaaDoorQRules
import Derived.Laws.CopyRow
namespace Go.Eng
open Go Go.RowKit

/-! ### Facts on types, each a closed Bool -/
def tSc (P : Program) (t : TypeId) : Bool := match P.underlying t with | some (.struct _) => false | some (.array _ _) => false | some _ => true | none => false
def tAg (P : Program) (t : TypeId) (n : Nat) : Bool := (match P.underlying t with | some (.struct _) => true | some (.array _ _) => true | _ => false) && (match P.info? t with | some i => Nat.beq i.size n | none => false)
def tSz (P : Program) (t : TypeId) (n : Nat) : Bool := match P.info? t with | some i => Nat.beq i.size n | none => false
def tFo (P : Program) (s f o : Nat) : Bool := match P.underlying s with
  | some (.struct fs) => (match fs[f]? with | some x => (match P.info? x.type with | some i => decide (i.size ≠ 0) && Nat.beq x.offset o | none => false) | none => false)
  | _ => false
def tSl (P : Program) (t e s : Nat) : Bool := (match P.underlying t with | some (.slice e') => Nat.beq e e' | _ => false) && tSz P e s
def tZ (P : Program) (t : Nat) (z : List Value) : Prop := ∃ i v, P.info? t = some i ∧ i.zero = some v ∧ v.cells = z.toArray

section
variable {P : Program}
theorem tSc_spec {t : TypeId} (h : tSc P t = true) : ∀ w, (isAgg t).run P w = .ok false w := by
  intro w
  unfold tSc at h
  split at h <;> first | cases h | skip
  rename_i d h1 h2 hd
  simp only [isAgg, Sem.run_bind, run_underlying hd, Result.andThen_ok]
  cases d <;> first | exact absurd rfl (h1 _) | exact absurd rfl (h2 _ _) | rfl
theorem tSz_spec {t n : Nat} (h : tSz P t n = true) : ∃ i, P.info? t = some i ∧ i.size = n := by
  unfold tSz at h
  split at h
  · rename_i i hi; exact ⟨i, hi, by simpa using h⟩
  · cases h
theorem tAg_spec {t n : Nat} (h : tAg P t n = true) : (∀ w, (isAgg t).run P w = .ok true w) ∧ ∃ i, P.info? t = some i ∧ i.size = n := by
  unfold tAg at h
  simp only [Bool.and_eq_true] at h
  refine ⟨fun w => ?_, tSz_spec (by unfold tSz; exact h.2)⟩
  have h1 := h.1
  split at h1 <;> first | cases h1 | skip
  · rename_i hd
    simp only [isAgg, Sem.run_bind, run_underlying hd, Result.andThen_ok]
    rfl
  · rename_i hd
    simp only [isAgg, Sem.run_bind, run_underlying hd, Result.andThen_ok]
    rfl
theorem run_sizeOf' {t n : Nat} (h : tSz P t n = true) (w : World) : (sizeOf t).run P w = .ok n w := by
  obtain ⟨i, hi, hs⟩ := tSz_spec h
  simp [sizeOf, typeInfo, hi, hs]
theorem tFo_spec {s f o : Nat} (h : tFo P s f o = true) : ∃ fs x i, P.underlying s = some (.struct fs) ∧ fs[f]? = some x ∧ P.info? x.type = some i ∧ i.size ≠ 0 ∧ x.offset = o := by
  unfold tFo at h
  split at h <;> first | cases h | skip
  rename_i fs hs
  split at h <;> first | cases h | skip
  rename_i x hx
  split at h <;> first | cases h | skip
  rename_i i hi
  simp only [Bool.and_eq_true] at h
  exact ⟨fs, x, i, hs, hx, hi, by simpa using h.1, by simpa using h.2⟩
theorem tSl_spec {t e s : Nat} (h : tSl P t e s = true) : P.underlying t = some (.slice e) ∧ tSz P e s = true := by
  unfold tSl at h
  simp only [Bool.and_eq_true] at h
  refine ⟨?_, h.2⟩
  have h1 := h.1
  split at h1
  · rename_i e' he
    have : e = e' := by simpa using h1
    rw [this]; exact he
  · cases h1
end

/-! ### Rows of cells -/
/-- A part of a list. -/
inductive LGet : List Value → Nat → Nat → List Value → Prop
  | zero {l : List Value} : LGet l 0 0 []
  | here {x : Value} {r vs : List Value} {n : Nat} : LGet r 0 n vs → LGet (x :: r) 0 (n + 1) (x :: vs)
  | skip {x : Value} {r vs : List Value} {o n : Nat} : LGet r o n vs → LGet (x :: r) (o + 1) n vs
theorem LGet.spec {l vs : List Value} {o n : Nat} (h : LGet l o n vs) : vs.length = n ∧ ∀ j v, vs[j]? = some v → l[o + j]? = some v := by
  induction h with
  | zero => exact ⟨rfl, by simp⟩
  | here _ ih =>
    refine ⟨by simp [ih.1], fun j v hj => ?_⟩
    cases j with
    | zero => simpa using hj
    | succ j =>
      have := ih.2 j v (by simpa using hj)
      simpa using this
  | @skip x r vs o n _ ih =>
    refine ⟨ih.1, fun j v hj => ?_⟩
    rw [show o + 1 + j = (o + j) + 1 by omega, List.getElem?_cons_succ]
    exact ih.2 j v hj
theorem LGet.one {l : List Value} {o : Nat} {v : Value} (h : LGet l o 1 [v]) : l[o]? = some v := by
  have := h.spec.2 0 v rfl
  simpa using this
/-- A part of a list is written. -/
inductive LPut : List Value → Nat → List Value → List Value → Prop
  | zero {l : List Value} : LPut l 0 [] l
  | here {x v : Value} {r r' vs : List Value} : LPut r 0 vs r' → LPut (x :: r) 0 (v :: vs) (v :: r')
  | skip {x : Value} {r r' vs : List Value} {o : Nat} : LPut r o vs r' → LPut (x :: r) (o + 1) vs (x :: r')
theorem LPut.spec {l l' vs : List Value} {o : Nat} (h : LPut l o vs l') : o + vs.length ≤ l.length ∧ l' = l.take o ++ vs ++ l.drop (o + vs.length) := by
  induction h with
  | zero => simp
  | here _ ih => exact ⟨by have := ih.1; simp at this ⊢; omega, by simp [ih.2]⟩
  | @skip x r r' vs o _ ih =>
    refine ⟨by have := ih.1; simp at this ⊢; omega, ?_⟩
    rw [ih.2, show o + 1 + vs.length = (o + vs.length) + 1 by omega]
    simp

@[reducible] def blk (g t : Nat) (l : List Value) : Chunk := .obj g (.cells l.toArray t (0, 0))

def Has (hs : List Chunk) (c : Chunk) : Prop := c ∈ hs
theorem Has.h0 {c : Chunk} {r : List Chunk} : Has (c :: r) c := List.mem_cons_self
theorem Has.hn {c x : Chunk} {r : List Chunk} (h : Has r c) : Has (x :: r) c := List.mem_cons_of_mem _ h

section
variable {P : Program} {N : Nat} {C : Cx} {Q : Exit → Act → World → Prop} {e e' : Env} {hs hs' : List Chunk} {I J : World → Prop}
variable {d : Option Tmp} {ty : TypeId} {pos : String} {af : Array Edge} {gd : Option (Nat × Bool)}

theorem R.mv {x : Operand} {v : Value} (hx : EV e x v) : Run P N C e hs I ⟨d, .move x, ty, pos, af, gd⟩ v := fun a w hf _ => by
  rw [← hf.ev hx]; rfl
theorem R.as {x : Operand} {v : Value} (hx : EV e x v) : Run P N C e hs I ⟨d, .assign x, ty, pos, af, gd⟩ v := fun a w hf _ => by
  rw [← hf.ev hx]; rfl
inductive TGet : List Value → Nat → Value → Prop
  | here {v : Value} {r : List Value} : TGet (v :: r) 0 v
  | skip {x v : Value} {r : List Value} {n : Nat} : TGet r n v → TGet (x :: r) (n + 1) v
theorem TGet.spec {l : List Value} {n : Nat} {v : Value} (h : TGet l n v) : l[n]? = some v := by
  induction h with
  | here => rfl
  | skip _ ih => simpa using ih
theorem R.ex {x : Operand} {l : List Value} {n : Nat} {v : Value} (hx : EV e x (.tuple l.toArray)) (hl : TGet l n v) : Run P N C e hs I ⟨d, .extract x n, ty, pos, af, gd⟩ v := fun a w hf _ => by
  have := hl.spec
  simp [execOp, hf.ev hx, Instr.extract, this]
theorem R.nc {x : Operand} {p : Addr} (hx : EV e x (.pointer (some p))) : Run P N C e hs I ⟨d, .nilCheck x, ty, pos, af, gd⟩ (.pointer (some p)) := fun a w hf _ => by
  simp [execOp, hf.ev hx]
theorem R.pkt {c x y : Operand} {v : Value} (hc : EV e c (.bool true)) (hx : EV e x v) : Run P N C e hs I ⟨d, .pick c x y, ty, pos, af, gd⟩ v := fun a w hf _ => by
  simp [execOp, hf.ev hc, hf.ev hx, asBool]
theorem R.pkf {c x y : Operand} {v : Value} (hc : EV e c (.bool false)) (hy : EV e y v) : Run P N C e hs I ⟨d, .pick c x y, ty, pos, af, gd⟩ v := fun a w hf _ => by
  simp [execOp, hf.ev hc, hf.ev hy, asBool]

/-! integers -/
theorem wi {x : Int} (h1 : -9223372036854775808 ≤ x) (h2 : x ≤ 9223372036854775807) : IntKind.i64.wrap x = x := IntWalk.i64_in x ⟨h1, h2⟩
section ints
variable {x y : Operand} {k : IntKind} {m n r : Int} {tx tyy : TypeId}
theorem R.add (hx : EV e x (.int k m)) (hy : EV e y (.int k n)) (h : k.wrap (m + n) = r) : Run P N C e hs I ⟨d, .binOp .add tx x y tyy, ty, pos, af, gd⟩ (.int k r) := fun a w hf _ => by
  simp [execOp, eqGuard, binOp, Op.intArith, hf.ev hx, hf.ev hy, h]
theorem R.sub (hx : EV e x (.int k m)) (hy : EV e y (.int k n)) (h : k.wrap (m - n) = r) : Run P N C e hs I ⟨d, .binOp .sub tx x y tyy, ty, pos, af, gd⟩ (.int k r) := fun a w hf _ => by
  simp [execOp, eqGuard, binOp, Op.intArith, hf.ev hx, hf.ev hy, h]
theorem R.mul (hx : EV e x (.int k m)) (hy : EV e y (.int k n)) (h : k.wrap (m * n) = r) : Run P N C e hs I ⟨d, .binOp .mul tx x y tyy, ty, pos, af, gd⟩ (.int k r) := fun a w hf _ => by
  simp [execOp, eqGuard, binOp, Op.intArith, hf.ev hx, hf.ev hy, h]
theorem R.quo (hx : EV e x (.int k m)) (hy : EV e y (.int k n)) (h0 : n ≠ 0) (h : k.wrap (m.tdiv n) = r) : Run P N C e hs I ⟨d, .binOp .quo tx x y tyy, ty, pos, af, gd⟩ (.int k r) := fun a w hf _ => by
  simp [execOp, eqGuard, binOp, Op.intDiv, hf.ev hx, hf.ev hy, h, h0]
theorem R.rem (hx : EV e x (.int k m)) (hy : EV e y (.int k n)) (h0 : n ≠ 0) (h : m.tmod n = r) : Run P N C e hs I ⟨d, .binOp .rem tx x y tyy, ty, pos, af, gd⟩ (.int k r) := fun a w hf _ => by
  simp [execOp, eqGuard, binOp, Op.intDiv, hf.ev hx, hf.ev hy, h, h0]
theorem R.lss (hx : EV e x (.int k m)) (hy : EV e y (.int k n)) : Run P N C e hs I ⟨d, .binOp .lss tx x y tyy, ty, pos, af, gd⟩ (.bool (decide (m < n))) := fun a w hf _ => by
  simp [execOp, eqGuard, binOp, Op.intCmp, hf.ev hx, hf.ev hy]
theorem R.leq (hx : EV e x (.int k m)) (hy : EV e y (.int k n)) : Run P N C e hs I ⟨d, .binOp .leq tx x y tyy, ty, pos, af, gd⟩ (.bool (decide (m ≤ n))) := fun a w hf _ => by
  simp [execOp, eqGuard, binOp, Op.intCmp, hf.ev hx, hf.ev hy]
theorem R.gtr (hx : EV e x (.int k m)) (hy : EV e y (.int k n)) : Run P N C e hs I ⟨d, .binOp .gtr tx x y tyy, ty, pos, af, gd⟩ (.bool (decide (n < m))) := fun a w hf _ => by
  simp [execOp, eqGuard, binOp, Op.intCmp, hf.ev hx, hf.ev hy]
theorem R.geq (hx : EV e x (.int k m)) (hy : EV e y (.int k n)) : Run P N C e hs I ⟨d, .binOp .geq tx x y tyy, ty, pos, af, gd⟩ (.bool (decide (n ≤ m))) := fun a w hf _ => by
  simp [execOp, eqGuard, binOp, Op.intCmp, hf.ev hx, hf.ev hy]
theorem R.eqi (hx : EV e x (.int k m)) (hy : EV e y (.int k n)) : Run P N C e hs I ⟨d, .binOp .eql tx x y tyy, ty, pos, af, gd⟩ (.bool (decide (m = n))) := fun a w hf _ => by
  have hb : (m == n) = decide (m = n) := by by_cases h : m = n <;> simp [h]
  simp [execOp, eqGuard, binOp, Op.intCmp, hf.ev hx, hf.ev hy, hb]
theorem R.nei (hx : EV e x (.int k m)) (hy : EV e y (.int k n)) : Run P N C e hs I ⟨d, .binOp .neq tx x y tyy, ty, pos, af, gd⟩ (.bool (decide (m ≠ n))) := fun a w hf _ => by
  have hb : (m != n) = decide (m ≠ n) := by by_cases h : m = n <;> simp [h]
  simp [execOp, eqGuard, binOp, Op.intCmp, hf.ev hx, hf.ev hy, hb]
theorem R.bits {op : BinOp} (hop : op = .and ∨ op = .or ∨ op = .xor ∨ op = .andNot) (hx : EV e x (.int k m)) (hy : EV e y (.int k n)) (h : Op.intBits op k m n = pure (.int k r)) :
    Run P N C e hs I ⟨d, .binOp op tx x y tyy, ty, pos, af, gd⟩ (.int k r) := fun a w hf _ => by
  rcases hop with rfl | rfl | rfl | rfl <;> simp [execOp, eqGuard, binOp, hf.ev hx, hf.ev hy, h]
theorem R.shl {k2 : IntKind} (hx : EV e x (.int k m)) (hy : EV e y (.int k2 n)) (h0 : 0 ≤ n) (h : k.wrap (m * 2 ^ (min n.toNat k.bits)) = r) : Run P N C e hs I ⟨d, .binOp .shl tx x y tyy, ty, pos, af, gd⟩ (.int k r) := fun a w hf _ => by
  have : ¬ n < 0 := by omega
  simp [execOp, eqGuard, binOp, Op.shift, hf.ev hx, hf.ev hy, this, h]
theorem R.shr {k2 : IntKind} (hx : EV e x (.int k m)) (hy : EV e y (.int k2 n)) (h0 : 0 ≤ n) (h : m.fdiv (2 ^ (min n.toNat k.bits)) = r) : Run P N C e hs I ⟨d, .binOp .shr tx x y tyy, ty, pos, af, gd⟩ (.int k r) := fun a w hf _ => by
  have : ¬ n < 0 := by omega
  simp [execOp, eqGuard, binOp, Op.shift, hf.ev hx, hf.ev hy, this, h]
theorem R.neg (hx : EV e x (.int k m)) (h : k.wrap (0 - m) = r) : Run P N C e hs I ⟨d, .unOp .neg tx x, ty, pos, af, gd⟩ (.int k r) := fun a w hf _ => by
  have h' : k.wrap (-m) = r := by rw [← h]; simp
  simp [execOp, Op.unary, Op.intArith, hf.ev hx, h']
def tInt (P : Program) (t : TypeId) (k : IntKind) : Bool := match P.underlying t with | some (.int k') => decide (k = k') | _ => false
theorem R.cvi {k2 : IntKind} {src dst : TypeId} {ds : TypeDesc} (hs1 : P.underlying src = some ds) (ht : tInt P dst k2 = true) (hx : EV e x (.int k m)) (h : k2.wrap m = r) : Run P N C e hs I ⟨d, .convert src dst x, ty, pos, af, gd⟩ (.int k2 r) := fun a w hf _ => by
  unfold tInt at ht
  split at ht
  · rename_i k' hk
    have : k2 = k' := by simpa using ht
    subst this
    simp [execOp, convert, run_underlying hk, run_underlying hs1, Conv.intToInt, hf.ev hx, h]
  · cases ht
theorem R.not {p : Prop} [Decidable p] (hx : EV e x (.bool (decide p))) : Run P N C e hs I ⟨d, .unOp .not tx x, ty, pos, af, gd⟩ (.bool (decide (¬ p))) := fun a w hf _ => by
  simp [execOp, Op.unary, hf.ev hx]
theorem R.notb {b : Bool} (hx : EV e x (.bool b)) : Run P N C e hs I ⟨d, .unOp .not tx x, ty, pos, af, gd⟩ (.bool (!b)) := fun a w hf _ => by
  simp [execOp, Op.unary, hf.ev hx]
theorem R.maxi {tt : Array TypeId} (hx : EV e x (.int k m)) (hy : EV e y (.int k n)) (h : (if n > m then n else m) = r) : Run P N C e hs I ⟨d, .call ⟨.builtin .max, #[x, y], tt⟩, ty, pos, af, gd⟩ (.int k r) := fun a w hf _ => by
  simp only [gt_iff_lt] at h
  simp [execOp, resolve, invoke, builtin, Builtin.max_, Builtin.max2, hf.ev hx, hf.ev hy, h]
theorem R.mini {tt : Array TypeId} (hx : EV e x (.int k m)) (hy : EV e y (.int k n)) (h : (if n < m then n else m) = r) : Run P N C e hs I ⟨d, .call ⟨.builtin .min, #[x, y], tt⟩, ty, pos, af, gd⟩ (.int k r) := fun a w hf _ => by
  simp [execOp, resolve, invoke, builtin, Builtin.min_, Builtin.min2, hf.ev hx, hf.ev hy, h]
end ints
end
end Go.Eng
