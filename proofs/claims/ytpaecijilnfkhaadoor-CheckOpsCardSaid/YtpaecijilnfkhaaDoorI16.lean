/- Contracts: instructions, said otherwise. -/
import Derived.Test.YtpaecijilnfkhaaDoorR16

namespace Go.Proofs.YtpaecijilnfkhaaDoor
open Go Go.Eng Go.RowKit
theorem code_InstrsF {A : Option Addr} {b : List UInt8} {c : Nat} (hc : b.length ≤ c) (hl : b.length ≤ 140737488355328) {C : Cx} (hb : Hb C C.w0 [] (fun w => RdB w A b)) : Sp Tryd.prog 34 [.slice A b.length c] C (ι := {x : (Option Addr × Nat) × List (InstrS × Option Addr × Nat) // x.2.map (·.1) = (instrsS b).1}) (fun x => .tuple #[.slice x.1.1.1 x.1.2.length x.1.1.2, .int .i64 (instrsS b).2.1, .int .i64 (instrsS b).2.2]) (fun _ => []) (fun x w => RdF icell 5 w x.1.1.1 x.1.2 ∧ ∀ q ∈ x.1.2, RdI w q.2.1 q.1.widths) := by
  refine Sp.conv (code_Instrs hc hl hb) id (fun i => ?_) (fun _ => rfl) (fun i w h => ⟨⟨fun _ => rfl, h.1⟩, h.2⟩)
  obtain ⟨⟨⟨A1, c1⟩, M⟩, h⟩ := i
  have h1 := congrArg List.length h
  rw [List.length_map] at h1
  show Value.tuple #[.slice A1 (instrsS b).1.length c1, _, _] = Value.tuple #[.slice A1 M.length c1, _, _]
  rw [h1]

theorem ref16_InstrsF {A : Option Addr} {b : List UInt8} {c : Nat} (hc : b.length ≤ c) (hl : b.length ≤ 140737488355328) {C : Cx} (hb : Hb C C.w0 [] (fun w => RdB w A b)) : Sp Tryd.prog 35 [.slice A b.length c] C (ι := {x : (Option Addr × Nat) × List (InstrS × Option Addr × Nat) // x.2.map (·.1) = (instrsS b).1}) (fun x => .tuple #[.slice x.1.1.1 x.1.2.length x.1.1.2, .int .i64 (instrsS b).2.1, .int .i64 (instrsS b).2.2]) (fun _ => []) (fun x w => RdF icell 5 w x.1.1.1 x.1.2 ∧ ∀ q ∈ x.1.2, RdI w q.2.1 q.1.widths) := by
  refine Sp.conv (ref16_Instrs hc hl hb) id (fun i => ?_) (fun _ => rfl) (fun i w h => ⟨⟨fun _ => rfl, h.1⟩, h.2⟩)
  obtain ⟨⟨⟨A1, c1⟩, M⟩, h⟩ := i
  have h1 := congrArg List.length h
  rw [List.length_map] at h1
  show Value.tuple #[.slice A1 (instrsS b).1.length c1, _, _] = Value.tuple #[.slice A1 M.length c1, _, _]
  rw [h1]

end Go.Proofs.YtpaecijilnfkhaaDoor
