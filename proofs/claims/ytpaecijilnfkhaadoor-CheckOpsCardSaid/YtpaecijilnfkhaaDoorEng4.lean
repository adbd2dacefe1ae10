import Derived.Test.YtpaecijilnfkhaaDoorEng3
import Derived.Laws.StructEq
/-
  The engine: arrays of parts, slices of parts, contracts said otherwise.
-/
namespace Go.Eng
open Go Go.RowKit

section
variable {P : Program} {N : Nat} {C : Cx} {Q : Exit → Act → World → Prop} {e : Env} {hs : List Chunk} {I : World → Prop}
theorem R.blda {d : Option Tmp} {ty : TypeId} {pos : String} {af : Array Edge} {gd : Option (Nat × Bool)} {t el n s : TypeId} {parts : Array (Nat × Operand)} {pv : List (Nat × Value)} {z l : List Value} (ht : tAr P t el n s = true) (hz : tZ P t z)
    (hp : ∀ a : Act, parts.map (fun p => (p.1, a.eval p.2)) = pv.toArray) (hf : Instr.fill (fun i => some (i * s, s)) z.toArray pv = some l.toArray) :
    Run P N C e hs I ⟨d, .build t parts, ty, pos, af, gd⟩ (.agg l.toArray) := fun A w _ _ => by
  obtain ⟨i, zv, h1, h2, h3⟩ := hz
  obtain ⟨hu, hz2⟩ := tAr_spec ht
  have hsz := run_sizeOf' hz2 w
  have hb2 : (Instr.build t (parts.map fun p => (p.1, A.eval p.2))).run P w = .ok (.agg l.toArray) w := by
    rw [hp A]
    rw [← h3] at hf
    simp only [Instr.build, zeroValue, typeInfo]
    simp [h1, h2, run_underlying hu, hsz, hf]
  simp only [execOp]
  simp [hb2]
theorem WL.bse {d : Tmp} {ty : TypeId} {pos : String} {af : Array Edge} {ops : Array Oper} {rest : List Oper} {t el n m : Nat} {parts : Array (Nat × Operand)} {pv : List (Nat × Value)} {z l : List Value} (ht : tSl P t el n = true) (hz : tZ P el z) (h0 : m * n ≠ 0) (hsm : m * n ≤ 16777216)
    (hp : ∀ a : Act, Fr a N e → parts.map (fun p => (p.1, a.eval p.2)) = pv.toArray)
    (hfill : Instr.fill (fun i => some (i * n, n)) ((Array.range (m * n)).map (z.toArray[· % z.toArray.size]!)) pv = some l.toArray) (hfr : fresh N e d = true)
    (h : ∀ g, WL P N C ops rest Q ((d, .slice (some ⟨g, 0, none⟩) m m) :: e) (blk g el l :: hs) I) :
    WL P N C ops (⟨some d, .buildSlice t m parts, ty, pos, af, none⟩ :: rest) Q e hs I := by
  intro a w hf hb
  obtain ⟨i, zv, h1, h2, h3⟩ := hz
  have hu := (tSl_spec ht).1
  have hsz := run_sizeOf' (tSl_spec ht).2 w
  have hr : (execOp a.eval ⟨some d, .buildSlice t m parts, ty, pos, af, none⟩).run P w = .ok (.value (.slice (some ⟨w.heap.size, 0, none⟩) m m)) (w.alloc (.cells l.toArray el)) := by
    have hb2 : (Instr.buildSlice t m (parts.map fun p => (p.1, a.eval p.2))).run P w = .ok (.slice (some ⟨w.heap.size, 0, none⟩) m m) (w.alloc (.cells l.toArray el)) := by
      rw [hp a hf]
      rw [← h3] at hfill
      have hbig : ¬ m * n > 2 ^ 24 := by omega
      simp only [Instr.buildSlice, Sem.run_bind, run_underlying hu, Result.andThen, hsz, hbig, if_false, h0]
      simp [zeroValue, typeInfo, h1, h2, hfill, newRow]
    simp only [execOp]
    simp [hb2]
  exact wl_step rfl hr (h w.heap.size _ _ (hf.put hfr) (hb.alloc _))
end
theorem Sp.conv {P : Program} {f : FuncId} {args : List Value} {C : Cx} {ι ι' : Type} {v : ι → Value} {H : ι → List Chunk} {F : ι → World → Prop} {v' : ι' → Value} {H' : ι' → List Chunk} {F' : ι' → World → Prop}
    (h : Sp P f args C v H F) (g : ι → ι') (hv : ∀ i, v i = v' (g i)) (hH : ∀ i, H i = H' (g i)) (hF : ∀ i w, F i w → F' (g i) w) : Sp P f args C v' H' F' := by
  refine Calls.mono h ?_
  rintro e w' ⟨i, rfl, hb⟩
  exact ⟨g i, by rw [hv i], by rw [← hH i]; exact hb.imp (hF i)⟩
end Go.Eng
namespace Go.Eng
open Go Go.RowKit
theorem chunk_row {A : Option Addr} {n m c t s : Nat} {xs ys : List Value} (hn : n = m) (hx : xs = ys) : Chunk.row (.slice A n c) t s n xs = .row (.slice A m c) t s m ys := by subst hn hx; rfl
theorem rowS {w : World} {A : Option Addr} {n c t : Nat} {xs : List Value} {l : List (List UInt8)} (h : w.ownsRow 0 t 1 (.slice A n c) n xs) (hn : n = l.length) (hx : xs = scells l) : RdS w A l := by subst hn hx; exact Rd.of_row h
theorem rowF {α : Type} {f : α → List Value} {z : Nat} {w : World} {A : Option Addr} {n c t : Nat} {xs : List Value} {l : List α} (hf : ∀ x, (f x).length = z) (hz : 0 < z) (h : w.ownsRow 0 t z (.slice A n c) n xs) (hn : n = l.length) (hx : xs = flat f l) : RdF f z w A l := by subst hn hx; exact RdF.of_row hf h hz
theorem rowI {w : World} {A : Option Addr} {n c t : Nat} {xs : List Value} {l : List Int} (h : w.ownsRow 0 t 1 (.slice A n c) n xs) (hn : n = l.length) (hx : xs = icells l) : RdI w A l := by subst hn hx; exact Rd.of_row h
end Go.Eng
namespace Go.Eng
open Go Go.RowKit
section
variable {P : Program} {N : Nat} {C : Cx} {Q : Exit → Act → World → Prop} {e e' : Env} {hs : List Chunk} {I : World → Prop} {lt : Nat → Bool} {k : Nat}
variable {d : Tmp} {ty : TypeId} {pos : String} {af : Array Edge} {ops : Array Oper} {tail : List Oper}
theorem alc_alloc {t : Nat} {z : List Value} (hz : tZ P t z) : Alc P N C e hs I ⟨some d, .alloc t, ty, pos, af, none⟩ (fun g => .pointer (some ⟨g, 0, none⟩)) (fun g => [blk g t z]) := by
  intro a w hf hb
  obtain ⟨i, v, h1, h2, h3⟩ := hz
  refine ⟨w.heap.size, w.alloc (.cells z.toArray t), ?_, hb.alloc _⟩
  simp [execOp, Instr.alloc, zeroValue, typeInfo, h1, h2, newVar, newRow, h3]
theorem HT.allc {t : Nat} {z : List Value} (hz : tZ P t z) (hfr : fresh N e d = true) (h : ∀ g, WL P N C ops tail Q ((d, .pointer (some ⟨g, 0, none⟩)) :: e) (blk g t z :: hs) I) :
    HT P N C ops Q ⟨some d, .alloc t, ty, pos, af, none⟩ tail hs I lt k [] e := HT.alc _ _ 0 (alc_alloc hz) hfr h
theorem HT.allcu {t : Nat} {z : List Value} {E : Nat → Env} (hz : tZ P t z) (hu : ∀ g, Upd e d (.pointer (some ⟨g, 0, none⟩)) (E g)) (hN : inN N d = true) (h : ∀ g, WL P N C ops tail Q (E g) (blk g t z :: hs) I) :
    HT P N C ops Q ⟨some d, .alloc t, ty, pos, af, none⟩ tail hs I lt k [] e :=
  ⟨Nat, _, _, d, ⟨0⟩, rfl, rfl, alc_alloc hz, hN, fun x a w ha hb => h x a w (upd_putE (hu x) a ha) hb⟩
end
end Go.Eng
namespace Go.Eng
open Go Go.RowKit
theorem flat_put0 {α : Type} {f : α → List Value} {n : Nat} (hf : ∀ x, (f x).length = n) {l : List α} {i k : Nat} {x y : α} (h : l[i]? = some x) {vs : List Value} (hv : LPut (f x) k vs (f y)) : LPut (flat f l) (i * n + k) vs (flat f (l.set i y)) := by
  simpa using flat_put (b := []) hf h hv
theorem flat_take {α : Type} {f : α → List Value} {n : Nat} (hf : ∀ x, (f x).length = n) (l : List α) (m : Nat) : (flat f l).take (m * n) = flat f (l.take m) := by
  induction l generalizing m with
  | nil => simp [flat]
  | cons x r ih =>
    cases m with
    | zero => simp [flat]
    | succ m =>
      have h1 : flat f (x :: r) = f x ++ flat f r := rfl
      have h2 : flat f ((x :: r).take (m + 1)) = f x ++ flat f (r.take m) := rfl
      rw [h1, h2, List.take_append, hf, Nat.succ_mul, Nat.add_sub_cancel, ih, List.take_of_length_le (by rw [hf]; omega)]
theorem RdF.mkN {α : Type} {f : α → List Value} {z n : Nat} {w : World} {A : Option Addr} {l : List α} (hf : ∀ x, (f x).length = z) (hn : n = l.length) (h : Rd w A z n (flat f l)) : RdF f z w A l := by subst hn; exact ⟨hf, h⟩
theorem capRow {w : World} {A : Option Addr} {c t size n : Nat} {xs : List Value} (h : (Chunk.row (.slice A n c) t size n xs).holds w) : n ≤ c := by
  have h1 : w.ownsRow 0 t size (.slice A n c) n xs := h
  rcases h1.2 with ⟨h1, h2⟩ | ⟨g, cap, cur, hv, _, _, hc, _⟩
  · injection h1; omega
  · injection hv with _ _ h3; subst h3; exact hc
end Go.Eng

/-
  The engine: in a region that draws, an operation that leans on no memory may be done first.
-/
namespace Go.Eng
open Go Go.RowKit
/-- A panic's postcondition does not look at the temporaries' values. -/
class PF (Q : Exit → Act → World → Prop) : Prop where
  pf : ∀ c a (d : Option Tmp) (v : Value) w, Q (.panic c) (a.put d v) w → Q (.panic c) a w
instance {next : Act → World → Prop} {Q : Exit → Act → World → Prop} [h : PF Q] : PF (Exit.then next Q) := ⟨fun c a d v w => h.pf c a d v w⟩
instance {id : Nat} {Q : Exit → Act → World → Prop} [h : PF Q] : PF (Exit.inBlock id Q) := ⟨fun c a d v w => h.pf c a d v w⟩
instance {Q : Exit → Act → World → Prop} [h : PF Q] : PF (Exit.noGoto Q) := ⟨fun c a d v w => h.pf c a d v w⟩
theorem put_defers' (a : Act) (d : Option Tmp) (v : Value) : (a.put d v).defers = a.defers := by cases d <;> rfl
instance {P : Program} {fn : Func} {post : Ending → World → Prop} : PF (bodyPost P fn post) := ⟨fun c a d v w h => by
  unfold bodyPost at *
  first
    | exact h
    | (rw [put_defers'] at h; exact h)
    | (simp only [put_defers'] at h; exact h)⟩
section
variable {P : Program} {N : Nat} {C : Cx} {Q : Exit → Act → World → Prop} {e : Env} {hs : List Chunk} {I : World → Prop}
variable {ops : Array Oper} {fuel : Nat} {listed : Array Bool}
theorem hb_any (W : World) : Hb ⟨W, [], fun _ => False⟩ W [] (fun _ => True) :=
  ⟨⟨rfl, rfl, rfl, Nat.le_refl _, fun _ _ _ => rfl, fun c hc => absurd hc (by simp), fun c hc => absurd hc (by simp), List.Pairwise.nil, fun k h => absurd h (by simp)⟩, fun _ _ => trivial⟩
theorem WA.take {i d : Nat} {op : Op} {ty : TypeId} {pos : String} {af : Array Edge} {v : Value} (hi : ops[i]? = some ⟨some d, op, ty, pos, af, none⟩) (hs' : Region.noSelect ops = true) (hf : Region.free .any ops listed i = true) (hr : (Region.ready .any ops listed).contains i = true)
    [hQ : PF Q] (hp : ∀ (C : Cx) (hs : List Chunk) (I : World → Prop), Run P N C e hs I ⟨some d, op, ty, pos, af, none⟩ v) (hfr : fresh N e d = true)
    (h : WA P N C ops Q fuel (listed.setIfInBounds i true) ((d, v) :: e) hs I) : WA P N C ops Q (fuel + 1) listed e hs I := by
  intro a w hfa hb
  refine wpAny_take hi hs' hf hr (fun c a w hq => hQ.pf c a _ _ w hq) (v := v) (.inl ⟨by simp [Region.wanted], fun w => hp _ _ _ a w hfa (hb_any w)⟩) ?_
  exact h _ _ (hfa.put hfr) hb
end
end Go.Eng

/-
  The engine: structs compared.
-/
namespace Go.Eng
open Go Go.RowKit
inductive EqF (P : Program) (xs ys : Array Value) : List Field → Prop → Prop
  | nil : EqF P xs ys [] True
  | int {f : Field} {fs : List Field} {k : IntKind} {a b : Int} {p : Prop} : f.name ≠ "_" → P.underlying f.type = some (.int k) → xs[f.offset]? = some (.int k a) → ys[f.offset]? = some (.int k b) → EqF P xs ys fs p → EqF P xs ys (f :: fs) (a = b ∧ p)
  | str {f : Field} {fs : List Field} {a b : List UInt8} {p : Prop} : f.name ≠ "_" → P.underlying f.type = some .string → xs[f.offset]? = some (Go.Eng.str a) → ys[f.offset]? = some (Go.Eng.str b) → EqF P xs ys fs p → EqF P xs ys (f :: fs) (a = b ∧ p)
  | bool {f : Field} {fs : List Field} {a b : Bool} {p : Prop} : f.name ≠ "_" → P.underlying f.type = some .bool → xs[f.offset]? = some (.bool a) → ys[f.offset]? = some (.bool b) → EqF P xs ys fs p → EqF P xs ys (f :: fs) (a = b ∧ p)
theorem run_part' {P : Program} {t : TypeId} {ds : TypeDesc} {xs : Array Value} {off : Nat} {v : Value} (hu : P.underlying t = some ds) (hn : (∀ fs, ds ≠ .struct fs) ∧ ∀ n e, ds ≠ .array n e) (hx : xs[off]? = some v) (w : World) : (part t xs off).run P w = .ok v w := by
  cases ds <;> simp [part, isAgg, run_underlying hu, hx] at hn ⊢
theorem EqF.run {P : Program} {xs ys : Array Value} {fs : List Field} {p : Prop} (h : EqF P xs ys fs p) : ∀ [Decidable p] (d : Nat) (w : World), (Op.eqFields (d + 1) xs ys fs).run P w = .ok (decide p) w := by
  induction h with
  | nil => intro _ d w; simp [Op.eqFields]
  | @int f fs k a b p hn ht h1 h2 _ ih =>
    intro _ d w
    simp only [Op.eqFields, if_pos hn, Sem.run_bind, run_part' ht ⟨fun _ h => (by cases h), fun _ _ h => (by cases h)⟩ h1, run_part' ht ⟨fun _ h => (by cases h), fun _ _ h => (by cases h)⟩ h2, Result.andThen_ok, run_equalIn_int w d f.type k k a b ht]
    by_cases hab : a = b
    · subst hab
      haveI : Decidable p := Classical.propDecidable p
      simp only [beq_self_eq_true, Bool.not_true, Bool.false_eq_true, if_false]
      rw [ih d w]
      congr 1
      exact decide_eq_decide.2 (by simp)
    · have : (a == b) = false := by simpa using hab
      rw [this]
      simp [hab]
  | @str f fs a b p hn ht h1 h2 _ ih =>
    intro _ d w
    have h3 : (Op.equalIn (d + 1) f.type (Go.Eng.str a) (Go.Eng.str b)).run P w = .ok (decide (a = b)) w := by
      rw [show Go.Eng.str a = Value.string ⟨a.toArray⟩ from rfl, show Go.Eng.str b = Value.string ⟨b.toArray⟩ from rfl, run_equalIn_string w d f.type _ _ ht]
      congr 1
      rw [ByteArray.toList_eq, ByteArray.toList_eq]
      by_cases hab : a = b <;> simp [hab]
    simp only [Op.eqFields, if_pos hn, Sem.run_bind, run_part' ht ⟨fun _ h => (by cases h), fun _ _ h => (by cases h)⟩ h1, run_part' ht ⟨fun _ h => (by cases h), fun _ _ h => (by cases h)⟩ h2, Result.andThen_ok, h3]
    by_cases hab : a = b
    · subst hab
      haveI : Decidable p := Classical.propDecidable p
      simp only [decide_true, Bool.not_true, Bool.false_eq_true, if_false]
      rw [ih d w]
      congr 1
      exact decide_eq_decide.2 (by simp)
    · simp [hab]
  | @bool f fs a b p hn ht h1 h2 _ ih =>
    intro _ d w
    simp only [Op.eqFields, if_pos hn, Sem.run_bind, run_part' ht ⟨fun _ h => (by cases h), fun _ _ h => (by cases h)⟩ h1, run_part' ht ⟨fun _ h => (by cases h), fun _ _ h => (by cases h)⟩ h2, Result.andThen_ok, run_equalIn_bool' w d f.type a b ht]
    by_cases hab : a = b
    · subst hab
      haveI : Decidable p := Classical.propDecidable p
      simp only [beq_self_eq_true, Bool.not_true, Bool.false_eq_true, if_false]
      rw [ih d w]
      congr 1
      exact decide_eq_decide.2 (by simp)
    · have : (a == b) = false := by simpa using hab
      rw [this]
      simp [hab]
section
variable {P : Program} {N : Nat} {C : Cx} {e : Env} {hs : List Chunk} {I : World → Prop}
variable {d : Option Tmp} {ty : TypeId} {pos : String} {af : Array Edge} {gd : Option (Nat × Bool)}
theorem run_eq_st {tx : TypeId} {fs : Array Field} {xs ys : Array Value} {p : Prop} [Decidable p] (ht : P.underlying tx = some (.struct fs)) (hp : P.stoodInHeld tx = false) (hq : EqF P xs ys fs.toList p) (w : World) :
    (Op.equalIn 10000 tx (.agg xs) (.agg ys)).run P w = .ok (decide p) w := by
  have hf : P.fieldsOf tx = fs := by unfold Program.fieldsOf; rw [ht]
  rw [run_equalIn_struct w 9999 tx xs ys (by rw [hf]; exact ht) hp, hf]
  exact hq.run 9998 w
theorem R.nest {x y : Operand} {tx tyy : TypeId} {fs : Array Field} {xs ys : Array Value} {p : Prop} [Decidable p] (ht : P.underlying tx = some (.struct fs)) (hm : P.eqGuardType P.depth tx = false) (hp : P.stoodInHeld tx = false)
    (hx : EV e x (.agg xs)) (hy : EV e y (.agg ys)) (hq : EqF P xs ys fs.toList p) : Run P N C e hs I ⟨d, .binOp .neq tx x y tyy, ty, pos, af, gd⟩ (.bool (decide (¬ p))) := fun A w hf _ => by
  have h1 := run_eqGuard_agg (P := P) w .neq tx x y xs ys hm
  simp only [execOp, hf.ev hx, hf.ev hy]
  simp [h1, run_neq_struct, run_eq_st ht hp hq w, Result.andThen]
theorem R.eqst {x y : Operand} {tx tyy : TypeId} {fs : Array Field} {xs ys : Array Value} {p : Prop} [Decidable p] (ht : P.underlying tx = some (.struct fs)) (hm : P.eqGuardType P.depth tx = false) (hp : P.stoodInHeld tx = false)
    (hx : EV e x (.agg xs)) (hy : EV e y (.agg ys)) (hq : EqF P xs ys fs.toList p) : Run P N C e hs I ⟨d, .binOp .eql tx x y tyy, ty, pos, af, gd⟩ (.bool (decide p)) := fun A w hf _ => by
  have h1 := run_eqGuard_agg (P := P) w .eql tx x y xs ys hm
  simp only [execOp, hf.ev hx, hf.ev hy]
  simp [h1, run_eql_struct, run_eq_st ht hp hq w, Result.andThen]
end
end Go.Eng
