import Derived.Test.YtpaecijilnfkhaaDoorEng3
/-
  The engine: arrays of parts, slices of parts, contracts said otherwise.
-/
namespace Go.Eng
open Go Go.RowKit

section
variable {P : Program} {N : Nat} {C : Cx} {Q : Exit → Act → World → Prop} {e : Env} {hs : List Chunk} {I : World → Prop}
theorem R.blda {d : Option Tmp} {ty : TypeId} {pos : String} {af : Array Edge} {gd : Option (Nat × Bool)} {t el n s : TypeId} {parts : Array (Nat × Operand)} {pv : List (Nat × Value)} {z l : List Value} (ht : tAr P t el n s = true) (hz : tZ P t z)
    (hp : ∀ a : Act, parts.map (fun p => (p.1, a.eval p.2)) = pv.toArray) (hf : Instr.fill (fun i => some (i * s, s)) z.toArray pv = some l.toArray) :
    Run P N C e hs I ⟨d, .build t parts, ty, pos, af, gd⟩ (.agg l.toArray) := fun A w _ _ => by
  obtain ⟨i, zv, h1, h2, h3⟩ := hz
  obtain ⟨hu, hz2⟩ := tAr_spec ht
  have hsz := run_sizeOf' hz2 w
  have hb2 : (Instr.build t (parts.map fun p => (p.1, A.eval p.2))).run P w = .ok (.agg l.toArray) w := by
    rw [hp A]
    rw [← h3] at hf
    simp only [Instr.build, zeroValue, typeInfo]
    simp [h1, h2, run_underlying hu, hsz, hf]
  simp only [execOp]
  simp [hb2]
theorem WL.bse {d : Tmp} {ty : TypeId} {pos : String} {af : Array Edge} {ops : Array Oper} {rest : List Oper} {t el n m : Nat} {parts : Array (Nat × Operand)} {pv : List (Nat × Value)} {z l : List Value} (ht : tSl P t el n = true) (hz : tZ P el z) (h0 : m * n ≠ 0) (hsm : m * n ≤ 16777216)
    (hp : ∀ a : Act, Fr a N e → parts.map (fun p => (p.1, a.eval p.2)) = pv.toArray)
    (hfill : Instr.fill (fun i => some (i * n, n)) ((Array.range (m * n)).map (z.toArray[· % z.toArray.size]!)) pv = some l.toArray) (hfr : fresh N e d = true)
    (h : ∀ g, WL P N C ops rest Q ((d, .slice (some ⟨g, 0, none⟩) m m) :: e) (blk g el l :: hs) I) :
    WL P N C ops (⟨some d, .buildSlice t m parts, ty, pos, af, none⟩ :: rest) Q e hs I := by
  intro a w hf hb
  obtain ⟨i, zv, h1, h2, h3⟩ := hz
  have hu := (tSl_spec ht).1
  have hsz := run_sizeOf' (tSl_spec ht).2 w
  have hr : (execOp a.eval ⟨some d, .buildSlice t m parts, ty, pos, af, none⟩).run P w = .ok (.value (.slice (some ⟨w.heap.size, 0, none⟩) m m)) (w.alloc (.cells l.toArray el)) := by
    have hb2 : (Instr.buildSlice t m (parts.map fun p => (p.1, a.eval p.2))).run P w = .ok (.slice (some ⟨w.heap.size, 0, none⟩) m m) (w.alloc (.cells l.toArray el)) := by
      rw [hp a hf]
      rw [← h3] at hfill
      have hbig : ¬ m * n > 2 ^ 24 := by omega
      simp only [Instr.buildSlice, Sem.run_bind, run_underlying hu, Result.andThen, hsz, hbig, if_false, h0]
      simp [zeroValue, typeInfo, h1, h2, hfill, newRow]
    simp only [execOp]
    simp [hb2]
  exact wl_step rfl hr (h w.heap.size _ _ (hf.put hfr) (hb.alloc _))
end
theorem Sp.conv {P : Program} {f : FuncId} {args : List Value} {C : Cx} {ι ι' : Type} {v : ι → Value} {H : ι → List Chunk} {F : ι → World → Prop} {v' : ι' → Value} {H' : ι' → List Chunk} {F' : ι' → World → Prop}
    (h : Sp P f args C v H F) (g : ι → ι') (hv : ∀ i, v i = v' (g i)) (hH : ∀ i, H i = H' (g i)) (hF : ∀ i w, F i w → F' (g i) w) : Sp P f args C v' H' F' := by
  refine Calls.mono h ?_
  rintro e w' ⟨i, rfl, hb⟩
  exact ⟨g i, by rw [hv i], by rw [← hH i]; exact hb.imp (hF i)⟩
end Go.Eng
namespace Go.Eng
open Go Go.RowKit
theorem chunk_row {A : Option Addr} {n m c t s : Nat} {xs ys : List Value} (hn : n = m) (hx : xs = ys) : Chunk.row (.slice A n c) t s n xs = .row (.slice A m c) t s m ys := by subst hn hx; rfl
theorem rowS {w : World} {A : Option Addr} {n c t : Nat} {xs : List Value} {l : List (List UInt8)} (h : w.ownsRow 0 t 1 (.slice A n c) n xs) (hn : n = l.length) (hx : xs = scells l) : RdS w A l := by subst hn hx; exact Rd.of_row h
theorem rowF {α : Type} {f : α → List Value} {z : Nat} {w : World} {A : Option Addr} {n c t : Nat} {xs : List Value} {l : List α} (hf : ∀ x, (f x).length = z) (hz : 0 < z) (h : w.ownsRow 0 t z (.slice A n c) n xs) (hn : n = l.length) (hx : xs = flat f l) : RdF f z w A l := by subst hn hx; exact RdF.of_row hf h hz
theorem rowI {w : World} {A : Option Addr} {n c t : Nat} {xs : List Value} {l : List Int} (h : w.ownsRow 0 t 1 (.slice A n c) n xs) (hn : n = l.length) (hx : xs = icells l) : RdI w A l := by subst hn hx; exact Rd.of_row h
end Go.Eng
namespace Go.Eng
open Go Go.RowKit
section
variable {P : Program} {N : Nat} {C : Cx} {Q : Exit → Act → World → Prop} {e e' : Env} {hs : List Chunk} {I : World → Prop} {lt : Nat → Bool} {k : Nat}
variable {d : Tmp} {ty : TypeId} {pos : String} {af : Array Edge} {ops : Array Oper} {tail : List Oper}
theorem alc_alloc {t : Nat} {z : List Value} (hz : tZ P t z) : Alc P N C e hs I ⟨some d, .alloc t, ty, pos, af, none⟩ (fun g => .pointer (some ⟨g, 0, none⟩)) (fun g => [blk g t z]) := by
  intro a w hf hb
  obtain ⟨i, v, h1, h2, h3⟩ := hz
  refine ⟨w.heap.size, w.alloc (.cells z.toArray t), ?_, hb.alloc _⟩
  simp [execOp, Instr.alloc, zeroValue, typeInfo, h1, h2, newVar, newRow, h3]
theorem HT.allc {t : Nat} {z : List Value} (hz : tZ P t z) (hfr : fresh N e d = true) (h : ∀ g, WL P N C ops tail Q ((d, .pointer (some ⟨g, 0, none⟩)) :: e) (blk g t z :: hs) I) :
    HT P N C ops Q ⟨some d, .alloc t, ty, pos, af, none⟩ tail hs I lt k [] e := HT.alc _ _ 0 (alc_alloc hz) hfr h
theorem HT.allcu {t : Nat} {z : List Value} {E : Nat → Env} (hz : tZ P t z) (hu : ∀ g, Upd e d (.pointer (some ⟨g, 0, none⟩)) (E g)) (hN : inN N d = true) (h : ∀ g, WL P N C ops tail Q (E g) (blk g t z :: hs) I) :
    HT P N C ops Q ⟨some d, .alloc t, ty, pos, af, none⟩ tail hs I lt k [] e :=
  ⟨Nat, _, _, d, ⟨0⟩, rfl, rfl, alc_alloc hz, hN, fun x a w ha hb => h x a w (upd_putE (hu x) a ha) hb⟩
end
end Go.Eng
