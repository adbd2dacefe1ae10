/-
  Functions that call themselves.
-/
import Derived.Test.YtkfcinmgebhbhaaDoorQSnd20
namespace Go.Lf
open Go Go.Eng

open Classical in
/-- an answer that some number of rounds gives -/
noncomputable def supC {α : Type} (g : Nat → Option α) : Option α := if h : ∃ k n, g n = some k then some (Classical.choose h) else none
theorem supC_some {α : Type} {g : Nat → Option α} {r : α} (h : supC g = some r) : ∃ n, g n = some r := by
  unfold supC at h
  split at h
  · rename_i he
    simp only [Option.some.injEq] at h
    rw [← h]
    exact Classical.choose_spec he
  · cases h
theorem supC_of {α : Type} {g : Nat → Option α} {r : α} {n : Nat} (h : g n = some r) (hu : ∀ m s, g m = some s → s = r) : supC g = some r := by
  unfold supC
  have he : ∃ k n, g n = some k := ⟨r, n, h⟩
  rw [dif_pos he]
  obtain ⟨m, hm⟩ := Classical.choose_spec he
  rw [hu m _ hm]
theorem rec_ok {P : Program} {G : World → Prop} {f : Nat} {ps : List Par} {rs : List Ty} {N : Nat → prodT (ps.map Par.ty) → Option (prodT (rs ++ outs ps))} (fn : Func) (hfn : P.funcs[f]? = some fn) (hname : (fn.name == "runtime.NumGoroutine") = false) (hb : fn.body.isNone = false) (hpt : ∀ t, Par.val t ∈ ps → t.top = true) (h0 : ∀ z, N 0 z = none)
    (hs : ∀ n, EntryOk P G f ⟨ps, rs, N n⟩ → EntryOk P G f ⟨ps, rs, N (n + 1)⟩) : EntryOk P G f ⟨ps, rs, fun z => supC fun n => N n z⟩ := by
  have all : ∀ n, EntryOk P G f ⟨ps, rs, N n⟩ := fun n => by
    induction n with
    | zero => exact ⟨GoFn.mk fn hfn hname hb, hpt, fun z r hz => by
        have hz : N 0 z = some r := hz
        rw [h0] at hz; cases hz⟩
    | succ n ih => exact hs n ih
  refine ⟨GoFn.mk fn hfn hname hb, hpt, fun z r hz => ?_⟩
  obtain ⟨n, hn⟩ := supC_some (show supC (fun n => N n z) = some r from hz)
  exact (all n).ok z r hn
theorem FnsOk.con {P : Program} {G : World → Prop} {p : Nat × Entry} {l : List (Nat × Entry)} (h : EntryOk P G p.1 p.2) (hl : FnsOk P G l) : FnsOk P G (p :: l) := .cons h hl
end Go.Lf
