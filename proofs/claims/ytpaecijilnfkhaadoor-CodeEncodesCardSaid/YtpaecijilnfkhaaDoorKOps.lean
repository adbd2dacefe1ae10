/- Arguments: operations. -/
import Derived.Test.YtpaecijilnfkhaaDoorOpn
import Derived.Test.YtpaecijilnfkhaaDoorPe
import Derived.Test.YtpaecijilnfkhaaDoorTy

namespace Go.Proofs.YtpaecijilnfkhaaDoor
open Go Go.Eng Go.RowKit
open Go.ChangeShapes Go.WideShapes
theorem i64_bd {z : Int} (h : IntKind.i64.min ≤ z ∧ z ≤ IntKind.i64.max) : -9223372036854775808 ≤ z ∧ z ≤ 9223372036854775807 := by
  have e1 : IntKind.i64.min = -9223372036854775808 := by decide
  have e2 : IntKind.i64.max = 9223372036854775807 := by decide
  omega
theorem flat_int (l : List Int) : flat (fun z : Int => [Value.int .i64 z]) l = icells l := by
  induction l with
  | nil => rfl
  | cons x r ih => show [Value.int .i64 x] ++ flat _ r = _; rw [ih]; rfl
section
variable {H : Type} {enc : TypeId × Value → H} {W : World}
theorem opn_ints : Opn enc Tryd.prog W 37 (fun q : List Int × Option Addr × Nat => [.slice q.2.1 q.1.length q.2.2]) (fun w q => RdI w q.2.1 q.1 ∧ (q.1.length ≤ q.2.2 ∧ q.1.length ≤ 17592186044416) ∧ ∀ x ∈ q.1, -9223372036854775808 ≤ x ∧ x ≤ 9223372036854775807) :=
  (Opn.slice (n := 1) (b := 8) Tryd.underlying37 (by kernel_rfl) (by kernel_rfl) (by decide) (fun _ => rfl) (Opn.int Tryd.underlying3)).iso id (fun _ => rfl) (fun w q h => ⟨by have := h.1.2; rw [flat_int] at this; exact this, ⟨h.2.1.1, by have := h.2.1.2; show q.1.length ≤ _; omega⟩, fun x hx => i64_bd (h.2.2 x hx)⟩)
theorem opn_op : Opn enc Tryd.prog W 95 ocell (fun w q => (RdI w q.2.1 q.1.widths ∧ q.1.widths.length ≤ q.2.2) ∧ OpGood q.1 ∧ q.1.widths.length ≤ 17592186044416) :=
  (Opn.struct (size := 4) Tryd.underlying95 (by kernel_rfl) (OpnS.cons (m := 1) rfl (by kernel_rfl) (Opn.int Tryd.underlying57) (OpnS.cons (m := 1) rfl (by kernel_rfl) (Opn.int Tryd.underlying3) (OpnS.cons (m := 1) rfl (by kernel_rfl) (Opn.str Tryd.underlying9) (OpnS.cons (m := 1) rfl (by kernel_rfl) opn_ints OpnS.nil))))).iso
    (fun p => ((⟨p.1, p.2.1, p.2.2.1, p.2.2.2.1.1⟩ : OpS), p.2.2.2.1.2)) (fun _ => rfl) (fun w p h => by
      obtain ⟨h1, h2, h3, h4, _⟩ := h
      have h5 := i64_bd h2
      exact ⟨⟨h4.1, h4.2.1.1⟩, ⟨by dsimp only; omega, by have := h4.2.1.2; dsimp only; omega, by dsimp only; omega⟩, h4.2.1.2⟩)
theorem opn_ops : Opn enc Tryd.prog W 47 (fun q : List (OpS × Option Addr × Nat) × Option Addr × Nat => [.slice q.2.1 q.1.length q.2.2])
    (fun w q => RdF ocell 4 w q.2.1 q.1 ∧ (q.1.length ≤ q.2.2 ∧ q.1.length ≤ 2513169434914) ∧ ∀ x ∈ q.1, (RdI w x.2.1 x.1.widths ∧ x.1.widths.length ≤ x.2.2) ∧ OpGood x.1 ∧ x.1.widths.length ≤ 17592186044416) :=
  (Opn.slice (n := 4) (b := 56) Tryd.underlying47 (by kernel_rfl) (by kernel_rfl) (by decide) ocell_length opn_op).iso id (fun _ => rfl) (fun w q h => ⟨h.1, ⟨h.2.1.1, by have := h.2.1.2; show q.1.length ≤ _; omega⟩, h.2.2⟩)
end

end Go.Proofs.YtpaecijilnfkhaaDoor
