/-
  More of what operations come to.
-/
import Derived.Test.YtkfcinmgebhbhaaDoorQMem
namespace Go.Eng
open Go Go.RowKit

def EnvOk (t : Array Value) : Env → Prop
  | [] => True
  | p :: r => t.getD p.1 undef = p.2 ∧ EnvOk t r
theorem EnvOk.spec {t : Array Value} {e : Env} (h : EnvOk t e) : ∀ p ∈ e, t.getD p.1 undef = p.2 := by
  induction e with
  | nil => simp
  | cons p r ih =>
    intro q hq
    rcases List.mem_cons.1 hq with rfl | hq
    · exact h.1
    · exact ih h.2 q hq
def entryEnv : List Value → Nat → Nat → Env
  | _, _, 0 => []
  | v :: vs, i, n + 1 => (i, v) :: entryEnv vs (i + 1) n
  | [], i, n + 1 => (i, undef) :: entryEnv [] (i + 1) n

theorem entry_spec {t : Array Value} : ∀ (n : Nat) (vs : List Value) (i : Nat), (∀ k, k < n → t.getD (i + k) undef = vs.getD k undef) → EnvOk t (entryEnv vs i n)
  | 0, vs, i, _ => by cases vs <;> trivial
  | n + 1, v :: vs, i, h => ⟨by have := h 0 (by omega); simpa using this, entry_spec n vs (i + 1) fun k hk => by
      have := h (k + 1) (by omega)
      rw [show i + (k + 1) = i + 1 + k by omega] at this
      simpa using this⟩
  | n + 1, [], i, h => ⟨by have := h 0 (by omega); simpa using this, entry_spec n [] (i + 1) fun k hk => by
      have := h (k + 1) (by omega)
      rw [show i + (k + 1) = i + 1 + k by omega] at this
      simpa using this⟩
theorem entry_ok {vs : List Value} {N n : Nat} (_hn : n ≤ N) (_hv : vs.length ≤ N) : EnvOk (vs.toArray ++ Array.replicate (N - vs.length) undef) (entryEnv vs 0 n) := by
  refine entry_spec n vs 0 fun k hk => ?_
  rw [Nat.zero_add]
  simp only [Array.getD_eq_getD_getElem?, List.getD_eq_getElem?_getD]
  by_cases h : k < vs.length
  · rw [Array.getElem?_append_left (by simpa using h)]
    simp
  · rw [Array.getElem?_append_right (by simpa using h)]
    rw [List.getElem?_eq_none (by omega)]
    simp
    rw [Array.getElem?_replicate]
    split <;> rfl
theorem entry_keys : ∀ (n : Nat) (vs : List Value) (i : Nat), (entryEnv vs i n).map (·.1) = List.range' i n
  | 0, vs, i => by cases vs <;> rfl
  | n + 1, v :: vs, i => by simp [entryEnv, entry_keys n vs (i + 1), List.range'_succ]
  | n + 1, [], i => by simp [entryEnv, entry_keys n [] (i + 1), List.range'_succ]
theorem entry_nd (vs : List Value) (n : Nat) {i : Nat} : ((entryEnv vs i n).map (·.1)).Nodup := by
  rw [entry_keys]
  exact List.nodup_range' 1

def tBo (P : Program) (t : TypeId) : Bool := match P.underlying t with | some .bool => true | _ => false
def tPt (P : Program) (t : TypeId) : Bool := match P.underlying t with | some (.pointer _) => true | _ => false
def AppTy (P : Program) (t el size bytes : Nat) : Prop := ∃ i0 z, P.underlying t = some (.slice el) ∧ P.info? el = some i0 ∧ i0.zero = some z ∧ i0.size = size ∧ i0.bytes = bytes ∧ z.cells.size = size ∧ 0 < size

section
variable {P : Program} {N : Nat} {C : Cx} {Q : Exit → Act → World → Prop} {e e' : Env} {hs hs' : List Chunk} {I J : World → Prop}
variable {d : Option Tmp} {ty : TypeId} {pos : String} {af : Array Edge} {gd : Option (Nat × Bool)}
theorem run_bin_eq {t : TypeId} {a b : Value} {r : Bool} {w : World} (h : ∀ n : Nat, (Op.equalIn (n + 1) t a b).run P w = .ok r w) : (Op.equal t a b).run P w = .ok r w := by
  have := h 9999
  simpa [Op.equal, Op.maxDepth] using this
theorem R.eqb {x y : Operand} {tx tyy : TypeId} {a b : Bool} (ht : tBo P tx = true) (hx : EV e x (.bool a)) (hy : EV e y (.bool b)) : Run P N C e hs I ⟨d, .binOp .eql tx x y tyy, ty, pos, af, gd⟩ (.bool (decide (a = b))) := fun A w hf _ => by
  unfold tBo at ht
  split at ht
  · rename_i hu
    have hb : (a == b) = decide (a = b) := by cases a <;> cases b <;> rfl
    have h3 := run_bin_eq (P := P) (w := w) (t := tx) (a := .bool a) (b := .bool b) (r := decide (a = b)) fun n => by simp [Op.equalIn, run_underlying hu, hb]
    simp only [execOp, eqGuard, hf.ev hx, hf.ev hy, binOp]
    simp [h3]
  · cases ht
theorem R.neb {x y : Operand} {tx tyy : TypeId} {a b : Bool} (ht : tBo P tx = true) (hx : EV e x (.bool a)) (hy : EV e y (.bool b)) : Run P N C e hs I ⟨d, .binOp .neq tx x y tyy, ty, pos, af, gd⟩ (.bool (decide (a ≠ b))) := fun A w hf _ => by
  unfold tBo at ht
  split at ht
  · rename_i hu
    have hb : (a == b) = decide (a = b) := by cases a <;> cases b <;> rfl
    have h3 := run_bin_eq (P := P) (w := w) (t := tx) (a := .bool a) (b := .bool b) (r := decide (a = b)) fun n => by simp [Op.equalIn, run_underlying hu, hb]
    simp only [execOp, eqGuard, hf.ev hx, hf.ev hy, binOp]
    simp [h3]
  · cases ht
theorem R.eqpn {x y : Operand} {tx tyy : TypeId} {a : Addr} (ht : tPt P tx = true) (hx : EV e x (.pointer (some a))) (hy : EV e y (.pointer none) := by exact .c) : Run P N C e hs I ⟨d, .binOp .eql tx x y tyy, ty, pos, af, gd⟩ (.bool false) := fun A w hf _ => by
  unfold tPt at ht
  split at ht
  · rename_i hu
    have h3 := run_bin_eq (P := P) (w := w) (t := tx) (a := .pointer (some a)) (b := .pointer none) (r := false) fun n => by simp [Op.equalIn, run_underlying hu]
    simp only [execOp, eqGuard, hf.ev hx, hf.ev hy, binOp]
    simp [h3]
  · cases ht
theorem R.nepn {x y : Operand} {tx tyy : TypeId} {a : Addr} (ht : tPt P tx = true) (hx : EV e x (.pointer (some a))) (hy : EV e y (.pointer none) := by exact .c) : Run P N C e hs I ⟨d, .binOp .neq tx x y tyy, ty, pos, af, gd⟩ (.bool true) := fun A w hf _ => by
  unfold tPt at ht
  split at ht
  · rename_i hu
    have h3 := run_bin_eq (P := P) (w := w) (t := tx) (a := .pointer (some a)) (b := .pointer none) (r := false) fun n => by simp [Op.equalIn, run_underlying hu]
    simp only [execOp, eqGuard, hf.ev hx, hf.ev hy, binOp]
    simp [h3]
  · cases ht

def tFz (P : Program) (s f n : Nat) : Bool := match P.underlying s with
  | some (.struct fs) => (match fs[f]? with | some x => tSz P x.type n | none => false)
  | _ => false
/-- the parts of a composite value, each laid at its field -/
inductive Parts (P : Program) (s : Nat) (e : Env) : List Value → List (Nat × Operand) → List Value → Prop
  | nil {z : List Value} : Parts P s e z [] z
  | cons {z z1 z2 : List Value} {f o n : Nat} {x : Operand} {v : Value} {vs : List Value} {r : List (Nat × Operand)} : tFo P s f o = true → tFz P s f n = true → vs.length = n → EV e x v → v.cells = vs.toArray → LPut z o vs z1 → Parts P s e z1 r z2 → Parts P s e z ((f, x) :: r) z2
theorem foldl_put (vs : List Value) : ∀ (k : Nat) (cs : Array Value), k + vs.length ≤ cs.size → ((vs.zipIdx k).foldl (fun cs (p : Value × Nat) => cs.setIfInBounds p.2 p.1) cs).toList = cs.toList.take k ++ vs ++ cs.toList.drop (k + vs.length) := by
  induction vs with
  | nil => intro k cs _; simp
  | cons v r ih =>
    intro k cs hk
    simp only [List.length_cons] at hk
    simp only [List.zipIdx_cons, List.foldl_cons]
    rw [ih (k + 1) _ (by simp; omega)]
    have hkl : k < cs.toList.length := by simp; omega
    simp only [Array.toList_setIfInBounds]
    rw [List.take_set, List.drop_set_of_lt (by omega)]
    rw [List.set_eq_take_append_cons_drop, if_pos (by simp; omega)]
    simp only [List.take_take, List.length_cons]
    rw [Nat.min_eq_left (by omega), List.drop_take]
    simp [show k + 1 + r.length = k + (r.length + 1) by omega]
theorem foldl_put' (vs : List Value) (o : Nat) (cs : Array Value) (h : o + vs.length ≤ cs.size) :
    (vs.toArray.zipIdx.foldl (fun cs (c, j) => cs.setIfInBounds (o + j) c) cs).toList = cs.toList.take o ++ vs ++ cs.toList.drop (o + vs.length) := by
  have key : ∀ (vs : List Value) (k : Nat) (cs : Array Value), ((vs.zipIdx k).foldl (fun cs (p : Value × Nat) => cs.setIfInBounds (o + p.2) p.1) cs) = ((vs.zipIdx (o + k)).foldl (fun cs (p : Value × Nat) => cs.setIfInBounds p.2 p.1) cs) := by
    intro vs
    induction vs with
    | nil => intro k cs; rfl
    | cons v r ih => intro k cs; simp only [List.zipIdx_cons, List.foldl_cons]; exact ih (k + 1) _
  have h1 := foldl_put vs o cs h
  have h2 := key vs 0 cs
  simp only [Nat.add_zero] at h2
  rw [← h1, ← h2]
  simp
theorem run_mapM_places {P : Program} {fs : List Field} {w : World} (h : ∀ f : Field, f ∈ fs → ∃ i, P.info? f.type = some i) :
    ∃ pl : List (Nat × Nat), (fs.mapM fun (f : Field) => do pure (f.offset, ← sizeOf f.type)).run P w = .ok pl w ∧ pl = fs.map fun (f : Field) => (f.offset, ((P.info? f.type).map (·.size)).getD 0) := by
  induction fs with
  | nil => exact ⟨[], by simp, rfl⟩
  | cons f r ih =>
    obtain ⟨pl, h1, h2⟩ := ih fun g hg => h g (List.mem_cons_of_mem _ hg)
    obtain ⟨i, hi⟩ := h f List.mem_cons_self
    refine ⟨(f.offset, i.size) :: pl, ?_, by simp [h2, hi]⟩
    have h3 : ∀ w, (sizeOf f.type).run P w = .ok i.size w := fun w => by simp [sizeOf, typeInfo, hi]
    simp only [List.mapM_cons, Sem.run_bind, h3, Result.andThen_ok, Sem.run_pure]
    rw [h1]
    rfl
def tStruct (P : Program) (fs : Array Field) : Bool := fs.all fun f => (P.info? f.type).isSome
theorem R.bld {s : TypeId} {fs : Array Field} {parts : List (Nat × Operand)} {z l : List Value} (hs1 : P.underlying s = some (.struct fs)) (hall : tStruct P fs = true) (hz : tZ P s z) (hp : Parts P s e z parts l) :
    Run P N C e hs I ⟨d, .build s parts.toArray, ty, pos, af, gd⟩ (.agg l.toArray) := fun A w hf _ => by
  obtain ⟨i, zv, h1, h2, h3⟩ := hz
  obtain ⟨pl, hpl, hpl2⟩ := run_mapM_places (P := P) (w := w) (fs := fs.toList) fun f hf => by
    have := Array.all_eq_true_iff_forall_mem.1 hall f (by simpa using hf)
    exact Option.isSome_iff_exists.1 this
  have hplA : (fs.mapM fun (f : Field) => do pure (f.offset, ← sizeOf f.type)).run P w = .ok pl.toArray w := by
    rw [← Array.toArray_toList (xs := fs), List.mapM_toArray]
    simp only [Sem.run_map]
    rw [hpl]
    rfl
  have hfill : ∀ (z : List Value) (parts : List (Nat × Operand)) (l : List Value), Parts P s e z parts l → Instr.fill (pl.toArray[·]?) z.toArray (parts.map fun (i, x) => (i, A.eval x)) = some l.toArray := by
    intro z parts l hp
    induction hp with
    | nil => rfl
    | @cons z z1 z2 f o n x v vs r hfo hfz hn hx hv hput _ ih =>
      obtain ⟨fs', x', i', h4, h5, h6, h7, h8⟩ := tFo_spec hfo
      have : fs' = fs := by
        have := h4.symm.trans hs1
        injection this with this
        injection this
      subst this
      have hsz : i'.size = vs.length := by
        unfold tFz at hfz
        rw [hs1] at hfz
        simp only [h5] at hfz
        obtain ⟨i2, h9, h10⟩ := tSz_spec hfz
        have : i2 = i' := Option.some.inj (h9.symm.trans h6)
        rw [← this, h10, hn]
      have hsp := hput.spec
      have hpf : (pl.toArray[f]? : Option (Nat × Nat)) = some (o, i'.size) := by
        have hfx : fs'.toList[f]? = some x' := by simpa using h5
        simp [hpl2, hfx, h6, h8]
      have hvs : A.eval x = v := hf.ev hx
      simp only [List.map_cons, Instr.fill, hpf, hvs, hv]
      rw [if_neg (by simp [hsz]; omega)]
      have h11 : vs.toArray.zipIdx.foldl (fun cs (c, j) => cs.setIfInBounds (o + j) c) z.toArray = z1.toArray := by
        apply Array.ext'
        rw [foldl_put' vs o z.toArray (by simpa using hsp.1)]
        simpa using hsp.2.symm
      rw [h11]
      exact ih
  have h12 := hfill z parts l hp
  simp only [execOp, Instr.build, zeroValue, typeInfo]
  simp at hplA h12
  simp [h1, h2, h3, run_underlying hs1, hplA, h12]
/-- the parts of an array's value -/
inductive PartsA (P : Program) (el : Nat) (e : Env) : List Value → List (Nat × Operand) → List Value → Prop
  | nil {z : List Value} : PartsA P el e z [] z
  | cons {z z1 z2 : List Value} {f n : Nat} {x : Operand} {v : Value} {vs : List Value} {r : List (Nat × Operand)} : tSz P el n = true → vs.length = n → EV e x v → v.cells = vs.toArray → LPut z (f * n) vs z1 → PartsA P el e z1 r z2 → PartsA P el e z ((f, x) :: r) z2
theorem R.blda {s el n m : Nat} {parts : List (Nat × Operand)} {z l : List Value} (hs1 : P.underlying s = some (.array n el)) (hm : tSz P el m = true) (hz : tZ P s z) (hp : PartsA P el e z parts l) :
    Run P N C e hs I ⟨d, .build s parts.toArray, ty, pos, af, gd⟩ (.agg l.toArray) := fun A w hf _ => by
  obtain ⟨i, zv, h1, h2, h3⟩ := hz
  have hfill : ∀ (m : Nat), tSz P el m = true → ∀ (z : List Value) (parts : List (Nat × Operand)) (l : List Value), PartsA P el e z parts l → Instr.fill (fun i => some (i * m, m)) z.toArray (parts.map fun (i, x) => (i, A.eval x)) = some l.toArray := by
    intro m hm z parts l hp
    induction hp with
    | nil => rfl
    | @cons z z1 z2 f n x v vs r hsz hn hx hv hput _ ih =>
      have hnm : n = m := by
        obtain ⟨i1, a1, a2⟩ := tSz_spec hsz
        obtain ⟨i2, b1, b2⟩ := tSz_spec hm
        rw [a1] at b1
        injection b1 with b1
        rw [← a2, ← b2, b1]
      subst hnm
      have hsp := hput.spec
      have hvs : A.eval x = v := hf.ev hx
      simp only [List.map_cons, Instr.fill, hvs, hv]
      rw [if_neg (by simp [hn]; omega)]
      have h11 : vs.toArray.zipIdx.foldl (fun cs (c, j) => cs.setIfInBounds (f * n + j) c) z.toArray = z1.toArray := by
        apply Array.ext'
        rw [foldl_put' vs (f * n) z.toArray (by simpa using hsp.1)]
        simpa using hsp.2.symm
      rw [h11]
      exact ih
  have h12 := hfill m hm z parts l hp
  have h13 := run_sizeOf' (P := P) hm w
  simp only [execOp, Instr.build, zeroValue, typeInfo]
  simp at h12
  simp [h1, h2, h3, run_underlying hs1, h13, h12]
end
theorem tZ_mk {P : Program} {t : Nat} {z : List Value} (h : ((P.info? t).bind fun i => i.zero.map (·.cells)) = some z.toArray) : tZ P t z := by
  cases hi : P.info? t with
  | none => rw [hi] at h; cases h
  | some i =>
    rw [hi] at h
    simp only [Option.bind_some] at h
    cases hz : i.zero with
    | none => rw [hz] at h; cases h
    | some v => rw [hz] at h; exact ⟨i, v, hi, hz, by simpa using h⟩
theorem app_mk {P : Program} {t el size bytes : Nat} (h1 : P.underlying t = some (.slice el)) (h : ((P.info? el).bind fun i => i.zero.map fun z => (z.cells.size, i.size, i.bytes)) = some (size, size, bytes)) (h0 : 0 < size) : AppTy P t el size bytes := by
  cases hi : P.info? el with
  | none => rw [hi] at h; cases h
  | some i =>
    rw [hi] at h
    simp only [Option.bind_some] at h
    cases hz : i.zero with
    | none => rw [hz] at h; cases h
    | some v =>
      rw [hz] at h
      simp only [Option.map_some, Option.some.injEq, Prod.mk.injEq] at h
      exact ⟨i, v, h1, hi, hz, h.2.1, h.2.2, h.1, h0⟩
section
variable {P : Program} {N : Nat} {C : Cx} {Q : Exit → Act → World → Prop} {e e' : Env} {hs hs' : List Chunk} {I J : World → Prop}
variable {d : Option Tmp} {ty : TypeId} {pos : String} {af : Array Edge} {gd : Option (Nat × Bool)}
theorem R.slnil {x y : Operand} {tx tyy el s : TypeId} {A : Option Addr} {n c : Nat} (ht : tSl P tx el s = true) (hx : EV e x (.slice A n c)) (hy : EV e y (.slice none 0 0) := by exact .c) : Run P N C e hs I ⟨d, .binOp .eql tx x y tyy, ty, pos, af, gd⟩ (.bool A.isNone) := fun a w hf _ => by
  have hu := (tSl_spec ht).1
  have h3 := run_bin_eq (P := P) (w := w) (t := tx) (a := .slice A n c) (b := .slice none 0 0) (r := A.isNone) fun m => by cases A <;> simp [Op.equalIn, run_underlying hu]
  simp only [execOp, eqGuard, hf.ev hx, hf.ev hy, binOp]
  simp [h3]
def tIf (P : Program) (t : TypeId) : Bool := match P.underlying t with | some (.interface _) => true | _ => false
theorem tIf_spec {P : Program} {t : TypeId} (h : tIf P t = true) : ∃ m, P.underlying t = some (.interface m) := by
  unfold tIf at h
  split at h
  · rename_i m hm; exact ⟨m, hm⟩
  · cases h
theorem R.nein0 {x : Operand} {tx tyy : TypeId} (ht : tIf P tx = true) (hx : EV e x .nilIface) : Run P N C e hs I ⟨d, .binOp .neq tx x (.const .nilIface) tyy, ty, pos, af, gd⟩ (.bool false) := fun a w hf _ => by
  obtain ⟨m, hu⟩ := tIf_spec ht
  have h3 := run_bin_eq (P := P) (w := w) (t := tx) (a := .nilIface) (b := .nilIface) (r := true) fun m => by simp [Op.equalIn, run_underlying hu]
  have hy : a.eval (.const .nilIface) = .nilIface := rfl
  simp only [execOp, eqGuard, hf.ev hx, hy, binOp]
  simp [h3]
theorem R.nein1 {x : Operand} {tx tyy u : TypeId} {v : Value} (ht : tIf P tx = true) (hx : EV e x (.iface u v)) : Run P N C e hs I ⟨d, .binOp .neq tx x (.const .nilIface) tyy, ty, pos, af, gd⟩ (.bool true) := fun a w hf _ => by
  obtain ⟨m, hu⟩ := tIf_spec ht
  have h3 := run_bin_eq (P := P) (w := w) (t := tx) (a := .iface u v) (b := .nilIface) (r := false) fun m => by simp [Op.equalIn, run_underlying hu]
  have hy : a.eval (.const .nilIface) = .nilIface := rfl
  simp only [execOp, eqGuard, hf.ev hx, hy, binOp]
  simp [h3]
theorem R.eqin0 {x : Operand} {tx tyy : TypeId} (ht : tIf P tx = true) (hx : EV e x .nilIface) : Run P N C e hs I ⟨d, .binOp .eql tx x (.const .nilIface) tyy, ty, pos, af, gd⟩ (.bool true) := fun a w hf _ => by
  obtain ⟨m, hu⟩ := tIf_spec ht
  have h3 := run_bin_eq (P := P) (w := w) (t := tx) (a := .nilIface) (b := .nilIface) (r := true) fun m => by simp [Op.equalIn, run_underlying hu]
  have hy : a.eval (.const .nilIface) = .nilIface := rfl
  simp only [execOp, eqGuard, hf.ev hx, hy, binOp]
  simp [h3]
theorem R.eqin1 {x : Operand} {tx tyy u : TypeId} {v : Value} (ht : tIf P tx = true) (hx : EV e x (.iface u v)) : Run P N C e hs I ⟨d, .binOp .eql tx x (.const .nilIface) tyy, ty, pos, af, gd⟩ (.bool false) := fun a w hf _ => by
  obtain ⟨m, hu⟩ := tIf_spec ht
  have h3 := run_bin_eq (P := P) (w := w) (t := tx) (a := .iface u v) (b := .nilIface) (r := false) fun m => by simp [Op.equalIn, run_underlying hu]
  have hy : a.eval (.const .nilIface) = .nilIface := rfl
  simp only [execOp, eqGuard, hf.ev hx, hy, binOp]
  simp [h3]
end
def bcells (l : List UInt8) : List Value := l.map fun b => .int .u8 (b.toNat : Int)
theorem bcells_length (l : List UInt8) : (bcells l).length = l.length := by simp [bcells]
def RdB (w : World) (A : Option Addr) (l : List UInt8) : Prop := Rd w A 1 l.length (bcells l)
section
variable {P : Program} {N : Nat} {C : Cx} {Q : Exit → Act → World → Prop} {e e' : Env} {hs hs' : List Chunk} {I J : World → Prop}
variable {d : Option Tmp} {ty : TypeId} {pos : String} {af : Array Edge} {gd : Option (Nat × Bool)}
theorem foldl_push (l : List UInt8) (s : ByteArray) : (l.map fun b => (b.toNat : Int)).foldl (fun r n => r.push (UInt8.ofNat n.toNat)) s = ⟨s.data ++ l.toArray⟩ := by
  induction l generalizing s with
  | nil => simp
  | cons x r ih =>
    rw [List.map_cons, List.foldl_cons, ih]
    congr 1
    simp [ByteArray.push]
def tByt (P : Program) (t e : TypeId) : Bool := (match P.underlying t with | some (.slice e') => Nat.beq e e' | _ => false) && (match P.underlying e with | some (.int .u8) => true | _ => false)
/-- 'string(b)' -/
theorem R.cvbs {src dst el : TypeId} {x : Operand} {A : Option Addr} {n c : Nat} {l : List UInt8} (ht : tByt P src el = true) (hd : tStr P dst = true) (hx : EV e x (.slice A n c)) (hn : n = l.length) (hA : ∀ w, Hb C w hs I → RdB w A l) :
    Run P N C e hs I ⟨d, .convert src dst x, ty, pos, af, gd⟩ (str l) := fun a w hf hb => by
  subst hn
  unfold tByt at ht
  simp only [Bool.and_eq_true] at ht
  have h1 : P.underlying src = some (.slice el) := by
    have h := ht.1
    split at h
    · rename_i e2 he
      have : el = e2 := by simpa using h
      rw [this]; exact he
    · cases h
  have h2 : P.underlying el = some (.int .u8) := by
    have h := ht.2
    split at h
    · rename_i he; exact he
    · cases h
  have hr := hA w hb
  have h3 : (convert src dst (.slice A l.length c)).run P w = .ok (str l) w := by
    rw [run_convert_bytes_string w src dst el A l.length c h1 h2 (tStr_spec hd)]
    cases A with
    | none =>
      have : l = [] := by
        rcases l with _ | ⟨b, r⟩
        · rfl
        · obtain ⟨ad, h4, _⟩ := hr.2 (by simp [bcells])
          cases h4
      subst this
      rfl
    | some ad =>
      have h5 := run_bytesToString (P := P) w ad l.length c (l.map fun b => (b.toNat : Int)) (by
        have := run_loadCellsFrom' (P := P) (a := ad) (w := w) (bcells l) 0 #[] (fun j v hj => by
          obtain ⟨ad', h6, h7⟩ := Rd.cell hr hj
          injection h6 with h6
          subst h6
          simpa using h7)
        rw [bcells_length] at this
        simpa [loadCells, bcells, Function.comp_def] using this)
      rw [h5, foldl_push]
      simp
  simp [execOp, hf.ev hx, h3]
end

def resVal : List Value → Value
  | [x] => x
  | vs => .tuple vs.toArray
theorem EnvOk.spec' {t : Array Value} {e : Env} (h : EnvOk t e) : ∀ p ∈ e, t.getD p.1 undef = p.2 := EnvOk.spec h
end Go.Eng
