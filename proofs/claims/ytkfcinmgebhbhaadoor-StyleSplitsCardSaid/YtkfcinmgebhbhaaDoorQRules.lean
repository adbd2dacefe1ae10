/-
  What an operation comes to.
-/
import Derived.Test.YtkfcinmgebhbhaaDoorQEng
namespace Go.Eng
open Go Go.RowKit

section
variable (P : Program) (N : Nat) (C : Cx)
/-- The operation yields this and leaves the world as it is. -/
def Run (e : Env) (hs : List Chunk) (I : World → Prop) (o : Oper) (v : Value) : Prop :=
  ∀ a w, Fr a N e → Hb C w hs I → (execOp a.eval o).run P w = .ok (.value v) w
end
section
variable {P : Program} {N : Nat} {C : Cx} {e e' : Env} {hs hs' : List Chunk} {I J : World → Prop}
def GoFn (P : Program) (f : FuncId) : Prop := ∃ fn, P.funcs[f]? = some fn ∧ ¬ fn.name = "runtime.NumGoroutine" ∧ ¬ fn.body = none

theorem GoFn.mk {f : FuncId} (fn : Func) (h1 : P.funcs[f]? = some fn) (h2 : (fn.name == "runtime.NumGoroutine") = false) (h3 : fn.body.isNone = false) : GoFn P f :=
  ⟨fn, h1, by simpa using h2, fun h => by rw [h] at h3; cases h3⟩

theorem run_call {f : FuncId} (hg : GoFn P f) {a : Act} {ars : List Operand} {ats : Array TypeId} {vs : List Value} {w : World} {d : Option Tmp} {ty : TypeId} {pos : String} {af : Array Edge} {gd : Option (Nat × Bool)}
    {fo : Operand} (hfo : a.eval fo = .func (.func f) #[] #[]) (hv : ars.map a.eval = vs) :
    (execOp a.eval ⟨d, .call ⟨.value fo, ars.toArray, ats⟩, ty, pos, af, gd⟩).run P w = .ok (.enter f vs.toArray) w := by
  obtain ⟨fn, h1, h2, h3⟩ := hg
  subst hv
  simp [execOp, resolve, Deferred.ofValue, invoke, callFunc, hfo, h1, h2, h3]

end
end Go.Eng
