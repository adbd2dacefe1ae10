/-
  The engine's operations on memory and strings.
-/
import Derived.Test.YtkfcinmgebhbhaaDoorQOps
import Derived.Laws.CopyOwn
import Derived.Maps.AppendAt
namespace Go.Eng
open Go Go.RowKit

@[reducible] def str (l : List UInt8) : Value := .string ⟨l.toArray⟩
theorem str_size (l : List UInt8) : (ByteArray.mk l.toArray).size = l.length := by simp [ByteArray.size]
theorem str_toList (l : List UInt8) : (ByteArray.mk l.toArray).toList = l := by simp

/-- A pointer into a slice's array. -/
def ptA (A : Option Addr) (j : Nat) : Value := .pointer (A.map (·.add j))
def cellA (w : World) (A : Option Addr) (j : Nat) (v : Value) : Prop := ∃ ad, A = some ad ∧ w.cell? (ad.add j) = some v
/-- A slice reads as a list of cells. -/
def Rd (w : World) (A : Option Addr) (size n : Nat) (xs : List Value) : Prop :=
  xs.length = n * size ∧ (0 < xs.length → ∃ ad, A = some ad ∧ ∀ j u, xs[j]? = some u → w.cell? (ad.add j) = some u)

theorem add_add' (a : Addr) (i j : Nat) : (a.add i).add j = a.add (i + j) := by
  unfold Addr.add
  by_cases hi : i = 0 <;> by_cases hj : j = 0 <;> simp [hi, hj, Nat.add_assoc]
theorem add_zero' (a : Addr) : a.add 0 = a := rfl
theorem block_add (a : Addr) (n : Nat) : (a.add n).block = a.block := by unfold Addr.add; split <;> rfl

theorem Rd.cell {w : World} {A : Option Addr} {size n : Nat} {xs : List Value} (h : Rd w A size n xs) {j : Nat} {v : Value} (hj : xs[j]? = some v) : cellA w A j v := by
  have hlt : j < xs.length := (List.getElem?_eq_some_iff.1 hj).1
  obtain ⟨ad, h1, h2⟩ := h.2 (by omega)
  exact ⟨ad, h1, h2 j v hj⟩
theorem Rd.nil {w : World} {A : Option Addr} {size : Nat} : Rd w A size 0 [] := ⟨by simp, fun h => by simp at h⟩

/-- 's[k:]' keeps the old address where nothing is left of the capacity. -/
def cutA (A : Option Addr) (c k size : Nat) : Option Addr := if c = k then A else A.map (·.add (k * size))
theorem Rd.cut {w : World} {A : Option Addr} {size n c k m : Nat} {xs ys : List Value} (h : Rd w A size n xs) (hc : n ≤ c) (hk : k + m ≤ n) (hy : ys = (xs.drop (k * size)).take (m * size)) : Rd w (cutA A c k size) size m ys := by
  subst hy
  have hl : ((xs.drop (k * size)).take (m * size)).length = m * size := by
    rw [List.length_take, List.length_drop, h.1]
    have : k * size + m * size ≤ n * size := by rw [← Nat.add_mul]; exact Nat.mul_le_mul_right _ hk
    omega
  refine ⟨hl, fun h0 => ?_⟩
  have hm : 0 < m ∧ 0 < size := by
    rw [hl] at h0
    exact ⟨Nat.pos_of_mul_pos_right h0 |> fun _ => Nat.pos_of_ne_zero fun e => by simp [e] at h0, Nat.pos_of_ne_zero fun e => by simp [e] at h0⟩
  obtain ⟨ad, rfl, hcell⟩ := h.2 (by rw [h.1]; exact Nat.mul_pos (by omega) hm.2)
  refine ⟨ad.add (k * size), by unfold cutA; rw [if_neg (by omega)]; rfl, fun j u hu => ?_⟩
  rw [add_add']
  refine hcell _ u ?_
  rw [List.getElem?_take] at hu
  split at hu
  · rwa [List.getElem?_drop] at hu
  · cases hu

theorem Rd.of_row {w : World} {A : Option Addr} {c t size n : Nat} {xs : List Value} (h : w.ownsRow 0 t size (.slice A n c) n xs) : Rd w A size n xs := by
  refine ⟨h.1, fun hn => ?_⟩
  rcases h.2 with ⟨h2, rfl⟩ | ⟨g, cap, cur, hv, _⟩
  · have := h.1; simp at this; simp [this] at hn
  · have hA : A = some ⟨g, 0, none⟩ := by injection hv
    subst hA
    exact ⟨_, rfl, h.cells (g := g) rfl⟩
theorem Rd.of_blk {w : World} {g t size n : Nat} {l : List Value} (h : (blk g t l).holds w) (hl : l.length = n * size) : Rd w (some ⟨g, 0, none⟩) size n l := by
  refine ⟨hl, fun _ => ⟨_, rfl, fun j u hu => ?_⟩⟩
  have h1 : w.heap[g]? = some (.cells l.toArray t (0, 0)) := h
  unfold Addr.add
  split
  · rename_i hj
    subst hj
    simpa [World.cell?, h1] using hu
  · simpa [World.cell?, h1] using hu

section
variable {P : Program} {N : Nat} {C : Cx} {Q : Exit → Act → World → Prop} {e e' : Env} {hs hs' : List Chunk} {I J : World → Prop}
variable {d : Option Tmp} {ty : TypeId} {pos : String} {af : Array Edge} {gd : Option (Nat × Bool)}

theorem Hb.has {w : World} {c : Chunk} (h : Hb C w hs I) (hc : Has hs c) : c.holds w := h.hp.hold c hc
theorem blk_cell {w : World} {g t : Nat} {l : List Value} (h : (blk g t l).holds w) {j : Nat} {v : Value} (hj : l[j]? = some v) : w.cell? ⟨g, j, none⟩ = some v := by
  have h1 : w.heap[g]? = some (.cells l.toArray t (0, 0)) := h
  simpa [World.cell?, h1] using hj

/-! strings -/
section
variable {x y : Operand} {tx tyy : TypeId} {l m : List UInt8}
theorem R.eqs (hx : EV e x (str l)) (hy : EV e y (str m)) : Run P N C e hs I ⟨d, .binOp .eql tx x y tyy, ty, pos, af, gd⟩ (.bool (decide (l = m))) := fun a w hf _ => by
  have hb : (l == m) = decide (l = m) := by by_cases h : l = m <;> simp [h]
  simp [execOp, eqGuard, binOp, Op.stringOp, hf.ev hx, hf.ev hy, hb]
theorem R.nes (hx : EV e x (str l)) (hy : EV e y (str m)) : Run P N C e hs I ⟨d, .binOp .neq tx x y tyy, ty, pos, af, gd⟩ (.bool (decide (l ≠ m))) := fun a w hf _ => by
  have hb : (l == m) = decide (l = m) := by by_cases h : l = m <;> simp [h]
  simp [execOp, eqGuard, binOp, Op.stringOp, hf.ev hx, hf.ev hy, hb]
theorem R.cat (hx : EV e x (str l)) (hy : EV e y (str m)) (h : l.length + m.length ≤ 9223372036854775807) : Run P N C e hs I ⟨d, .binOp .add tx x y tyy, ty, pos, af, gd⟩ (str (l ++ m)) := fun a w hf _ => by
  have h1 : ¬ ((ByteArray.mk l.toArray).size : Int) + ((ByteArray.mk m.toArray).size : Int) > IntKind.i64.max := by
    rw [str_size, str_size]
    have : IntKind.i64.max = 9223372036854775807 := by decide
    omega
  have h2 : ByteArray.mk l.toArray ++ ByteArray.mk m.toArray = ByteArray.mk (l ++ m).toArray := by
    apply ByteArray.ext
    simp
  simp only [execOp, eqGuard, binOp, hf.ev hx, hf.ev hy, Op.stringOp, Sem.run_bind, Sem.run_pure, Int.natCast_add]
  rw [if_neg h1, h2]
  rfl
def tStr (P : Program) (t : TypeId) : Bool := match P.underlying t with | some .string => true | _ => false
theorem tStr_spec {t : TypeId} (h : tStr P t = true) : P.underlying t = some .string := by
  unfold tStr at h
  split at h
  · assumption
  · cases h
theorem R.lens {t : TypeId} (ht : tStr P t = true) (hx : EV e x (str l)) : Run P N C e hs I ⟨d, .call ⟨.builtin .len, #[x], #[t]⟩, ty, pos, af, gd⟩ (.int .i64 l.length) := fun a w hf _ => by
  simp [execOp, resolve, invoke, builtin, Builtin.len_, run_underlying (tStr_spec ht), hf.ev hx, goInt, str_size]
theorem R.lenl {t el s : TypeId} {A : Option Addr} {n c : Nat} (ht : tSl P t el s = true) (hx : EV e x (.slice A n c)) : Run P N C e hs I ⟨d, .call ⟨.builtin .len, #[x], #[t]⟩, ty, pos, af, gd⟩ (.int .i64 n) := fun a w hf _ => by
  simp [execOp, resolve, invoke, builtin, Builtin.len_, run_underlying (tSl_spec ht).1, hf.ev hx, goInt]
theorem R.ixs {k : IntKind} {i : Int} {j : Nat} {b : UInt8} (ht : tStr P tx = true) (hx : EV e x (str l)) (hy : EV e y (.int k i)) (hij : i = (j : Int)) (hb : l[j]? = some b) :
    Run P N C e hs I ⟨d, .index tx x y, ty, pos, af, gd⟩ (.int .u8 (b.toNat : Int)) := fun a w hf _ => by
  subst hij
  have hlt := (List.getElem?_eq_some_iff.1 hb).1
  have h1 : (ByteArray.mk l.toArray)[j]? = some b := by
    have h2 : j < (ByteArray.mk l.toArray).size := by rw [str_size]; exact hlt
    rw [getElem?_pos (ByteArray.mk l.toArray) j h2]
    have := (List.getElem?_eq_some_iff.1 hb).2
    simp [← this]
    rfl
  simp [execOp, Instr.index, asIntOf, run_underlying (tStr_spec ht), hf.ev hx, hf.ev hy, h1]
end

/-- A slice's bound. -/
inductive Bnd (e : Env) (dflt : Nat) : Option Operand → Nat → Prop
  | no : Bnd e dflt none dflt
  | yes {o : Operand} {k : IntKind} {m : Int} {n : Nat} : EV e o (.int k m) → m = (n : Int) → Bnd e dflt (some o) n


theorem run_bound {n top : Nat} {k : IntKind} (hn : n ≤ top) (code : BoundsCode) (w : World) : (Instr.sliceBound (.int k (n : Int)) top code).run P w = .ok n w := by
  have h1 : (n : Int) ≤ (top : Int) := by omega
  simp [Instr.sliceBound, asIntOf, h1]
theorem run_bounds {is : Bool} {len cap a b : Nat} {lo hi : Option Operand} {A : Act} (hlo : Bnd e 0 lo a) (hhi : Bnd e len hi b) (hf : Fr A N e) (hab : a ≤ b) (hb : b ≤ cap) (w : World) :
    (Instr.sliceBounds is len cap (lo.map A.eval) (hi.map A.eval) none).run P w = .ok (a, b, cap) w := by
  unfold Instr.sliceBounds
  cases hhi with
  | no =>
    cases hlo with
    | no => simp
    | yes h1 h2 => subst h2; simp [hf.ev h1, run_bound hab]
  | yes h3 h4 =>
    subst h4
    cases hlo with
    | no => simp [hf.ev h3, run_bound hb]
    | yes h1 h2 => subst h2; simp [hf.ev h1, hf.ev h3, run_bound hb, run_bound hab]
theorem R.sls {tx : TypeId} {x : Operand} {l r : List UInt8} {lo hi : Option Operand} {a b : Nat} (ht : tStr P tx = true) (hx : EV e x (str l)) (hlo : Bnd e 0 lo a) (hhi : Bnd e l.length hi b) (hab : a ≤ b) (hb : b ≤ l.length)
    (hr : (l.drop a).take (b - a) = r) : Run P N C e hs I ⟨d, .slice tx x lo hi none, ty, pos, af, gd⟩ (str r) := fun A w hf _ => by
  subst hr
  have h1 := run_bounds (P := P) (is := false) (cap := l.length) hlo hhi hf hab hb w
  have h2 : ByteArray.extract ⟨l.toArray⟩ a b = ⟨((l.drop a).take (b - a)).toArray⟩ := by
    apply ByteArray.ext
    rw [ByteArray.data_extract]
    apply Array.ext'
    simp
  have hu := tStr_spec ht
  simp [execOp, Instr.sliceAt, Instr.slice, run_underlying hu, hf.ev hx, str_size, h1, h2]
theorem R.sll {tx el s : TypeId} {x : Operand} {Ad : Option Addr} {n c : Nat} {lo hi : Option Operand} {a b : Nat} (ht : tSl P tx el s = true) (hx : EV e x (.slice Ad n c)) (hlo : Bnd e 0 lo a) (hhi : Bnd e n hi b) (hab : a ≤ b) (hb : b ≤ c) :
    Run P N C e hs I ⟨d, .slice tx x lo hi none, ty, pos, af, gd⟩ (.slice (cutA Ad c a s) (b - a) (c - a)) := fun A w hf _ => by
  have h1 := run_bounds (P := P) (is := true) (cap := c) hlo hhi hf hab hb w
  have hu := (tSl_spec ht).1
  simp [execOp, Instr.sliceAt, Instr.slice, run_underlying hu, hf.ev hx, h1, run_sizeOf' (tSl_spec ht).2, cutA]

/-! addresses -/
theorem R.ixa {tx el s : TypeId} {x y : Operand} {Ad : Option Addr} {n c j : Nat} {k : IntKind} {i : Int} (ht : tSl P tx el s = true) (hx : EV e x (.slice Ad n c)) (hy : EV e y (.int k i)) (hij : i = (j : Int)) (hj : j < n)
    (hA : ∀ w, Hb C w hs I → Ad ≠ none) : Run P N C e hs I ⟨d, .indexAddr tx x y, ty, pos, af, gd⟩ (ptA Ad (j * s)) := fun A w hf hb => by
  subst hij
  have hu := (tSl_spec ht).1
  cases Ad with
  | none => exact absurd rfl (hA w hb)
  | some ad => simp [execOp, Instr.indexAt, asIntOf, run_underlying hu, hf.ev hx, hf.ev hy, hj, run_sizeOf' (tSl_spec ht).2, ptA]
theorem Rd.ne {w : World} {A : Option Addr} {size n : Nat} {xs : List Value} (h : Rd w A size n xs) (hn : 0 < xs.length) : A ≠ none := by
  obtain ⟨ad, rfl, _⟩ := h.2 hn
  simp
theorem run_fieldAt {s f o : Nat} (h : tFo P s f o = true) (a : Addr) (w : World) : (Instr.fieldAt s (.pointer (some a)) f).run P w = .ok (.pointer (some (a.add o))) w := by
  obtain ⟨fs, x, i, h1, h2, h3, h4, h5⟩ := tFo_spec h
  simp [Instr.fieldAt, run_underlying h1, h2, Instr.sureAddr, fieldPlace, sizeOf, typeInfo, h3, h4, h5]
/-- a field of what a pointer points to, at a block's own place -/
theorem R.fa {s f o g : Nat} {x : Operand} (ht : tFo P s f o = true) (hx : EV e x (.pointer (some ⟨g, 0, none⟩))) : Run P N C e hs I ⟨d, .fieldAddr s x f, ty, pos, af, gd⟩ (.pointer (some ⟨g, o, none⟩)) := fun A w hf _ => by
  have : (⟨g, 0, none⟩ : Addr).add o = ⟨g, o, none⟩ := by unfold Addr.add; split <;> simp_all
  simp [execOp, hf.ev hx, run_fieldAt ht, this]
theorem R.fao {s f o g j k : Nat} {x : Operand} (ht : tFo P s f o = true) (hx : EV e x (.pointer (some ⟨g, j, none⟩))) (hk : j + o = k) : Run P N C e hs I ⟨d, .fieldAddr s x f, ty, pos, af, gd⟩ (.pointer (some ⟨g, k, none⟩)) := fun A w hf _ => by
  subst hk
  have : (⟨g, j, none⟩ : Addr).add o = ⟨g, j + o, none⟩ := by unfold Addr.add; split <;> simp_all
  simp [execOp, hf.ev hx, run_fieldAt ht, this]
/-- a field of a slice's element -/
theorem R.fap {s f o j : Nat} {x : Operand} {Ad : Option Addr} (ht : tFo P s f o = true) (hx : EV e x (ptA Ad j)) (hA : ∀ w, Hb C w hs I → Ad ≠ none) : Run P N C e hs I ⟨d, .fieldAddr s x f, ty, pos, af, gd⟩ (ptA Ad (j + o)) := fun A w hf hb => by
  cases Ad with
  | none => exact absurd rfl (hA w hb)
  | some ad =>
    have h1 : A.eval x = .pointer (some (ad.add j)) := hf.ev hx
    simp [execOp, h1, run_fieldAt ht, ptA, add_add']
theorem R.ncA {x : Operand} {Ad : Option Addr} {j : Nat} (hx : EV e x (ptA Ad j)) (hA : ∀ w, Hb C w hs I → Ad ≠ none) : Run P N C e hs I ⟨d, .nilCheck x, ty, pos, af, gd⟩ (ptA Ad j) := fun a w hf hb => by
  cases Ad with
  | none => exact absurd rfl (hA w hb)
  | some ad =>
    have h1 : a.eval x = .pointer (some (ad.add j)) := hf.ev hx
    simp [execOp, h1, ptA]

/-! loads -/
theorem run_loadVar_sc {t : TypeId} {a : Addr} {v : Value} {w : World} (ht : tSc P t = true) (hc : w.cell? a = some v) : (loadVar t a).run P w = .ok v w := by
  simp [loadVar, tSc_spec ht, hc]
theorem run_loadCellsFrom' {a : Addr} {w : World} : ∀ (vs : List Value) (i : Nat) (acc : Array Value), (∀ j v, vs[j]? = some v → w.cell? (a.add (i + j)) = some v) →
    (loadCellsFrom a i vs.length acc).run P w = .ok (acc ++ vs.toArray) w
  | [], _, acc, _ => by simp [loadCellsFrom]
  | v :: r, i, acc, h => by
    have h0 := h 0 v rfl
    have ih := run_loadCellsFrom' r (i + 1) (acc.push v) (fun j u hj => by
      have := h (j + 1) u (by simpa using hj)
      rwa [show i + (j + 1) = i + 1 + j by omega] at this)
    simp only [Nat.add_zero] at h0
    simp only [List.length_cons, loadCellsFrom, Sem.run_bind, run_load, h0, Result.andThen_ok, ih]
    simp
theorem run_loadVar_ag {t : TypeId} {a : Addr} {vs : List Value} {w : World} (ht : tAg P t vs.length = true) (hc : ∀ j v, vs[j]? = some v → w.cell? (a.add j) = some v) : (loadVar t a).run P w = .ok (.agg vs.toArray) w := by
  obtain ⟨h1, i, hi, hs⟩ := tAg_spec ht
  have := run_loadCellsFrom' (P := P) (a := a) (w := w) vs 0 #[] (fun j v hj => by simpa using hc j v hj)
  simp [loadVar, h1, sizeOf, typeInfo, hi, hs, loadCells, this]
theorem R.ld {t g tb o : Nat} {x : Operand} {l : List Value} {v : Value} (ht : tSc P t = true) (hx : EV e x (.pointer (some ⟨g, o, none⟩))) (hc : Has hs (blk g tb l)) (hl : l[o]? = some v) :
    Run P N C e hs I ⟨d, .load t x, ty, pos, af, gd⟩ v := fun A w hf hb => by
  have h1 := blk_cell (hb.has hc) hl
  simp [execOp, hf.ev hx, Instr.loadAt, Instr.sureAddr, run_loadVar_sc ht h1]
theorem R.lda {t g tb o n : Nat} {x : Operand} {l vs : List Value} (ht : tAg P t n = true) (hx : EV e x (.pointer (some ⟨g, o, none⟩))) (hc : Has hs (blk g tb l)) (hl : LGet l o n vs) :
    Run P N C e hs I ⟨d, .load t x, ty, pos, af, gd⟩ (.agg vs.toArray) := fun A w hf hb => by
  have h1 := hl.spec
  have h2 := hb.has hc
  have h3 : (loadVar t ⟨g, o, none⟩).run P w = .ok (.agg vs.toArray) w := run_loadVar_ag (by rw [h1.1]; exact ht) fun j v hj => by
    have h4 := blk_cell h2 (h1.2 j v hj)
    unfold Addr.add
    split
    · rename_i h5; subst h5; simpa using h4
    · exact h4
  simp [execOp, hf.ev hx, Instr.loadAt, Instr.sureAddr, h3]
/-- a load from what a slice holds, by a fact -/
theorem R.ldp {t j : Nat} {x : Operand} {Ad : Option Addr} {v : Value} (ht : tSc P t = true) (hx : EV e x (ptA Ad j)) (hc : ∀ w, Hb C w hs I → cellA w Ad j v) : Run P N C e hs I ⟨d, .load t x, ty, pos, af, gd⟩ v := fun A w hf hb => by
  obtain ⟨ad, rfl, h1⟩ := hc w hb
  have h2 : A.eval x = .pointer (some (ad.add j)) := hf.ev hx
  simp [execOp, h2, Instr.loadAt, Instr.sureAddr, run_loadVar_sc ht h1]
theorem R.ldpa {t j n : Nat} {x : Operand} {Ad : Option Addr} {vs : List Value} (ht : tAg P t n = true) (hn : vs.length = n) (hx : EV e x (ptA Ad j)) (hA : ∀ w, Hb C w hs I → Ad ≠ none) (hc : ∀ w, Hb C w hs I → ∀ i v, vs[i]? = some v → cellA w Ad (j + i) v) :
    Run P N C e hs I ⟨d, .load t x, ty, pos, af, gd⟩ (.agg vs.toArray) := fun A w hf hb => by
  cases Ad with
  | none => exact absurd rfl (hA w hb)
  | some ad =>
    have h2 : A.eval x = .pointer (some (ad.add j)) := hf.ev hx
    have h3 : (loadVar t (ad.add j)).run P w = .ok (.agg vs.toArray) w := run_loadVar_ag (by rw [hn]; exact ht) fun i v hi => by
      obtain ⟨ad', h4, h5⟩ := hc w hb i v hi
      injection h4 with h4
      subst h4
      rw [add_add']
      exact h5
    simp [execOp, h2, Instr.loadAt, Instr.sureAddr, h3]
/-- a load of a variable, or of any cell, by a fact -/
theorem R.ldf {t : Nat} {x : Operand} {a : Addr} {v : Value} (ht : tSc P t = true) (hx : EV e x (.pointer (some a))) (hc : ∀ w, Hb C w hs I → w.cell? a = some v) : Run P N C e hs I ⟨d, .load t x, ty, pos, af, gd⟩ v := fun A w hf hb => by
  simp [execOp, hf.ev hx, Instr.loadAt, Instr.sureAddr, run_loadVar_sc ht (hc w hb)]

/-! interfaces -/
theorem R.mi {t : TypeId} {x : Operand} {v : Value} {ds : TypeDesc} (ht : P.underlying t = some ds) (hni : ∀ m, ds ≠ .interface m) (hx : EV e x v) : Run P N C e hs I ⟨d, .makeInterface t x, ty, pos, af, gd⟩ (.iface t v) := fun A w hf _ => by
  have h1 := hf.ev hx
  cases ds <;> first | (exact absurd rfl (hni _)) | simp [execOp, Instr.makeInterface, run_underlying ht, h1]

/-! composite values -/
inductive Fill (P : Program) (s : Nat) : List Value → List (Nat × Value) → List Value → Prop
  | nil {z : List Value} : Fill P s z [] z
  | cons {z z1 z2 : List Value} {f o : Nat} {v : Value} {vs : List Value} {r : List (Nat × Value)} : tFo P s f o = true → v.cells = vs.toArray → LPut z o vs z1 → Fill P s z1 r z2 → Fill P s z ((f, v) :: r) z2
end
end Go.Eng
