import Derived.Test.YtpaecijilnfkhaaDoorEng2
import Derived.Carry
import Derived.ChangeSame
import Derived.ChangeMaps5
import Derived.SizedLaws
import Derived.ChangeSlices
import Derived.SliceStrings
import Derived.ProofKit
import Derived.OpenShut
import Derived.Deep.DeepHandedRow
import Derived.Lib.LaidTab
import Derived.Lib.LaidU8T
/-
  From a contract over the engine to a row's statement: the arguments are opened to lists, nothing old has turned, so all reads as before.
-/
namespace Go.Eng
open Go Go.RowKit Go.ChangeShapes Go.WideShapes Go.ChangeMaps Go.Lib

section
variable {H : Type} {enc : TypeId × Value → H} {P : Program}

def allRead (P : Program) (ts : List TypeId) : Bool := ts.all fun t => P.readableRec t && decide (t < P.types.size)
theorem trodAll_stay (hl : laidOutB P = true) {W W' : World} (hb : Below W.heap.size W W') : ∀ (ts : List TypeId) (vs : List Value) (ds : List (DataW H)) (ps : List MemPlace), allRead P ts = true →
    DataW.TrodAll enc P W 0 (fun _ => true) true ts vs ds ps → (∀ x ∈ ps, x.block < W.heap.size) → DataW.TrodAll enc P W' 0 (fun b => decide (b < W.heap.size)) true ts vs ds ps
  | [], [], [], _, _, h, _ => h
  | [], _ :: _, _, _, _, h, _ => h.elim
  | [], [], _ :: _, _, _, h, _ => h.elim
  | _ :: _, [], _, _, _, h, _ => h.elim
  | _ :: _, _ :: _, [], _, _, h, _ => h.elim
  | t :: ts, v :: vs, d :: ds, ps, hr, h, hlt => by
    obtain ⟨p, q, h1, h2, rfl⟩ := h
    simp only [allRead, List.all_cons, Bool.and_eq_true, decide_eq_true_eq] at hr
    exact ⟨p, q, Below.trod hl hr.1.1 hr.1.2 h1 hb (fun x hx => hlt x (List.mem_append_left _ hx)), trodAll_stay hl hb ts vs ds q hr.2 h2 (fun x hx => hlt x (List.mem_append_right _ hx)), rfl⟩

/-- The law answered true, and nothing old has turned. -/
theorem law_post {f : Func} {s : ChangeSpec} {W W' : World} {args : Array Value} {ds gs : List (DataW H)} {before : List MemPlace} {tb : TypeId} (hl : laidOutB P = true) (hr : allRead P f.params.toList = true) (hv : s.vars = [])
    (hres : f.resultTypes = #[tb]) (htb : P.underlying tb = some .bool) (hW : DataW.Whole enc P f.params.toList s.vars false W args.toList ds gs before)
    (hs : s.fn H (ds ++ gs) = { results := [.lit (.bool true)], args := ds, vars := [] }) (hb : Below W.heap.size W W') : s.post enc P f false true false false W args (.bool true) W' := by
  have hlt : ∀ p ∈ before, p.block < W.heap.size := fun p hp => hW.lt p hp
  have hW0 := hW
  obtain ⟨p, q, hA, hV, hps, _, _⟩ := hW
  rw [hv] at hV
  obtain ⟨rfl, rfl⟩ := trodVars_none hV
  refine ⟨ds, [], before, [], p, [], hW0, ?_, ?_, ?_, hb.frame _, fun h => by cases h⟩
  · rw [hs, hres]
    exact trodAll_mk1 (shut_bool htb true)
  · rw [hs]
    exact trodAll_stay hl hb _ _ _ _ hr hA (fun x hx => hlt x (by rw [hps]; exact List.mem_append_left _ hx))
  · rw [hs, hv]
    rfl
end

/-- The state that a law begins with. -/
def Cx.start (W : World) : Cx := ⟨W, [], fun _ => False⟩
def Lasts (W : World) (I : World → Prop) : Prop := ∀ w', Below W.heap.size W w' → I w'
theorem Lasts.and {W : World} {I J : World → Prop} (h : Lasts W I) (k : Lasts W J) : Lasts W (fun w => I w ∧ J w) := fun w' hb => ⟨h w' hb, k w' hb⟩
theorem Lasts.of {W : World} {p : Prop} (h : p) : Lasts W (fun _ => p) := fun _ _ => h
theorem Hb.start {W : World} {I : World → Prop} (h : Lasts W I) : Hb (Cx.start W) (Cx.start W).w0 [] I :=
  ⟨⟨rfl, rfl, rfl, Nat.le_refl _, fun _ _ _ => rfl, fun c hc => absurd hc (by simp), fun c hc => absurd hc (by simp), List.Pairwise.nil, fun k hk => hk.elim⟩,
   fun w' hx => h w' ⟨hx.os, hx.tape, hx.output, hx.size, fun k hk => hx.block k hk (fun h => h) (fun c hc => absurd hc (by simp))⟩⟩
theorem law_calls {P : Program} {f : FuncId} {args : List Value} {W : World} {v : Value} (h : Ret P f args (Cx.start W) v) : Calls P f args.toArray W fun e W' => e = .returned v ∧ Below W.heap.size W W' := by
  refine Calls.mono h ?_
  rintro e w' ⟨_, rfl, hb⟩
  exact ⟨rfl, hb.hp.os, hb.hp.tape, hb.hp.output, hb.hp.size, fun k hk => hb.hp.keep k hk (by simp [Cx.start])⟩
theorem cell_lt {W : World} {a : Addr} {v : Value} (h : W.cell? a = some v) : a.block < W.heap.size := by
  rcases Nat.lt_or_ge a.block W.heap.size with h1 | h1
  · exact h1
  · simp [World.cell?, Array.getElem?_eq_none h1] at h
theorem lasts_cell {W : World} {a : Addr} {v : Value} (h : W.cell? a = some v) : Lasts W (fun w => w.cell? a = some v) := fun _ hb => (hb.cell (cell_lt h)).trans h
theorem lasts_rd {W : World} {A : Option Addr} {size n : Nat} {xs : List Value} (h : Rd W A size n xs) : Lasts W (fun w => Rd w A size n xs) := fun w' hb =>
  ⟨h.1, fun hn => by
    obtain ⟨ad, h1, h2⟩ := h.2 hn
    exact ⟨ad, h1, fun j u hu => lasts_cell (h2 j u hu) w' hb⟩⟩
theorem lasts_rdB {W : World} {A : Option Addr} {l : List UInt8} (h : RdB W A l) : Lasts W (fun w => RdB w A l) := lasts_rd h
theorem lasts_rdI {W : World} {A : Option Addr} {l : List Int} (h : RdI W A l) : Lasts W (fun w => RdI w A l) := lasts_rd h
theorem lasts_rdS {W : World} {A : Option Addr} {l : List (List UInt8)} (h : RdS W A l) : Lasts W (fun w => RdS w A l) := lasts_rd h
theorem lasts_rdF {α : Type} {f : α → List Value} {z : Nat} {W : World} {A : Option Addr} {l : List α} (h : RdF f z W A l) : Lasts W (fun w => RdF f z w A l) := fun w' hb => ⟨h.1, lasts_rd h.2 w' hb⟩
theorem lasts_tabs {W : World} {g g' : Nat} (h : Lib.Utf8Tabs g g' W) : Lasts W (fun w => Lib.Utf8Tabs g g' w) := fun w' hb =>
  ⟨fun c hc => lasts_cell (h.1 c hc) w' hb, fun i hi => ⟨lasts_cell (h.2 i hi).1 w' hb, lasts_cell (h.2 i hi).2 w' hb⟩⟩

theorem lasts_var {P : Program} {W : World} {name : String} {cs : Array Value} (h : W.var? P name = some cs) : Lasts W (fun w => w.var? P name = some cs) := fun w' hb => by
  unfold World.var? at *
  cases hg : P.globalNamed name with
  | none => rw [hg] at h; simp at h
  | some g =>
    rw [hg] at h
    simp only [Option.bind_some] at *
    by_cases hlt : g < W.heap.size
    · rw [hb.block g hlt]; exact h
    · rw [Array.getElem?_eq_none (by omega)] at h; simp at h

/-! ### the arguments -/
section
variable {H : Type} {enc : TypeId × Value → H} {P : Program} {W : World} {base : Nat} {v : Value} {d : DataW H} {ps : List MemPlace} {t e : TypeId}

theorem open_strL (ht : P.underlying t = some .string) (hv : Value.okWide P W .any base t v) (h : DataW.Trod enc P W 0 (fun _ => true) true t v d ps) : ∃ l, v = str l ∧ d = .lit (.string l) ∧ l.length ≤ 9223372036854775807 := by
  obtain ⟨s, h1, h2, _, h4⟩ := open_string ht hv h
  refine ⟨s.data.toList, by rw [h1], h2, ?_⟩
  have : s.data.toList.length = s.size := rfl
  have h5 : maxLen = 9223372036854775807 := by decide
  omega
theorem open_intL (ht : P.underlying t = some (.int .i64)) (hv : Value.okWide P W .any base t v) (h : DataW.Trod enc P W 0 (fun _ => true) true t v d ps) : ∃ n : Int, v = .int .i64 n ∧ d = .lit (.int .i64 n) ∧ -9223372036854775808 ≤ n ∧ n ≤ 9223372036854775807 := by
  obtain ⟨n, h1, h2, _, h4⟩ := open_int ht hv h
  refine ⟨n, h1, h2, ?_⟩
  have h5 : IntKind.i64.min ≤ n ∧ n ≤ IntKind.i64.max := by simpa [Lit.wf] using h4
  have e1 : IntKind.i64.min = -9223372036854775808 := by decide
  have e2 : IntKind.i64.max = 9223372036854775807 := by decide
  omega
theorem u8_of_wf {z : Int} (h : (Lit.int .u8 z).wf = true) : ((UInt8.ofNat z.toNat).toNat : Int) = z := by
  have h5 : IntKind.u8.min ≤ z ∧ z ≤ IntKind.u8.max := by simpa [Lit.wf] using h
  have e1 : IntKind.u8.min = 0 := by decide
  have e2 : IntKind.u8.max = 255 := by decide
  have : (UInt8.ofNat z.toNat).toNat = z.toNat % 256 := by simp
  omega
theorem cells_slice {a : Option Addr} {n c : Nat} : (Value.slice a n c).cells.toList = [.slice a n c] := rfl
/-- a slice of integers of one kind -/
theorem open_intsL {k : IntKind} (ht : P.underlying t = some (.slice e)) (he : P.underlying e = some (.int k)) (hc : P.cellsOf e = 1) (hv : Value.okWide P W .any base t v) (h : DataW.Trod enc P W 0 (fun _ => true) true t v d ps) :
    ∃ (A : Option Addr) (zs : List Int) (c : Nat), v = .slice A zs.length c ∧ zs.length ≤ c ∧ Rd W A 1 zs.length (zs.map (.int k)) ∧ (∀ n ∈ zs, (Lit.int k n).wf = true) ∧
      ((d = .nil ∧ zs.length = 0) ∨ ∃ es sp, d = .slice es sp ∧ es.length = zs.length) := by
  obtain ⟨a, n, c, rfl⟩ := okWide_slice ht hv
  obtain ⟨fuel, hf⟩ := h
  rw [cells_slice] at hf
  rcases open_ints ht he hc hf with ⟨h1, h2⟩ | ⟨ad, len, cap, zs, h1, _, hl, _, hz, hx, hcell, hw⟩
  · have h3 : (a, n, c) = (none, 0, 0) := by
      injection h1 with h1
      injection h1 with h4 h5 h6
      rw [h4, h5, h6]
    injection h3 with h4 h5
    injection h5 with h5 h6
    subst h4 h5 h6
    injection h2 with h7 h8
    exact ⟨none, [], 0, rfl, Nat.le_refl _, by simpa using Rd.nil (w := W) (A := none) (size := 1), fun n hn => absurd hn (by simp), .inl ⟨h7, rfl⟩⟩
  · injection h1 with h1
    injection h1 with h4 h5 h6
    subst h4 h5 h6
    injection hx with h7 h8
    have hzl : zs.length = c := by simpa using hz
    have htl : (zs.take n).length = n := by rw [List.length_take]; omega
    refine ⟨some ad, zs.take n, c, by rw [htl], by rw [htl]; omega, ⟨by simp, fun _ => ⟨ad, rfl, fun j u hu => ?_⟩⟩, fun m hm => hw m (List.mem_of_mem_take hm), .inr ⟨_, _, h7, by simp [lits]⟩⟩
    rw [List.getElem?_map, List.getElem?_take] at hu
    split at hu
    · rename_i hj
      rw [List.getElem?_eq_getElem (by omega)] at hu
      have h9 := hcell j (by omega)
      rw [List.getD_eq_getElem?_getD, List.getElem?_eq_getElem (by omega)] at h9
      rw [h9]
      simpa using hu
    · simp at hu
theorem open_bytesL (ht : P.underlying t = some (.slice e)) (he : P.underlying e = some (.int .u8)) (hc : P.cellsOf e = 1) (hv : Value.okWide P W .any base t v) (h : DataW.Trod enc P W 0 (fun _ => true) true t v d ps) :
    ∃ (A : Option Addr) (l : List UInt8) (c : Nat), v = .slice A l.length c ∧ l.length ≤ c ∧ RdB W A l ∧ ((d = .nil ∧ l.length = 0) ∨ ∃ es sp, d = .slice es sp ∧ es.length = l.length) := by
  obtain ⟨A, zs, c, h1, h2, h3, h4, h5⟩ := open_intsL ht he hc hv h
  refine ⟨A, zs.map fun z => UInt8.ofNat z.toNat, c, by simpa using h1, by simpa using h2, ?_, ?_⟩
  · unfold RdB
    have : bcells (zs.map fun z => UInt8.ofNat z.toNat) = zs.map (.int .u8) := by
      unfold bcells
      rw [List.map_map]
      exact List.map_congr_left fun z hz => by simp only [Function.comp]; rw [u8_of_wf (h4 z hz)]
    rw [this]
    simpa using h3
  · rcases h5 with ⟨h6, h7⟩ | ⟨es, sp, h6, h7⟩
    · exact .inl ⟨h6, by simpa using h7⟩
    · exact .inr ⟨es, sp, h6, by simpa using h7⟩
theorem open_intsI (ht : P.underlying t = some (.slice e)) (he : P.underlying e = some (.int .i64)) (hc : P.cellsOf e = 1) (hv : Value.okWide P W .any base t v) (h : DataW.Trod enc P W 0 (fun _ => true) true t v d ps) :
    ∃ (A : Option Addr) (l : List Int) (c : Nat), v = .slice A l.length c ∧ l.length ≤ c ∧ RdI W A l ∧ (∀ n ∈ l, -9223372036854775808 ≤ n ∧ n ≤ 9223372036854775807) ∧ ((d = .nil ∧ l.length = 0) ∨ ∃ es sp, d = .slice es sp ∧ es.length = l.length) := by
  obtain ⟨A, zs, c, h1, h2, h3, h4, h5⟩ := open_intsL ht he hc hv h
  refine ⟨A, zs, c, h1, h2, h3, fun n hn => ?_, h5⟩
  have h5 : IntKind.i64.min ≤ n ∧ n ≤ IntKind.i64.max := by simpa [Lit.wf] using h4 n hn
  have e1 : IntKind.i64.min = -9223372036854775808 := by decide
  have e2 : IntKind.i64.max = 9223372036854775807 := by decide
  omega
/-- the reach of a slice, of a string -/
theorem reach_slice {ts : List TypeId} {ds : List (DataW H)} {n j b : Nat} (hz : (DataW.weightsEach P ts ds).all (· ≤ reachBytes) = true) (ht : ts[j]? = some t) (hd : ds[j]? = some d) (hu : P.underlying t = some (.slice e)) (hb : P.bytesOf e = b)
    (h : (d = .nil ∧ n = 0) ∨ ∃ es sp, d = .slice es sp ∧ es.length = n) : n * b ≤ 140737488351232 := by
  rcases h with ⟨_, h1⟩ | ⟨es, sp, h1, h2⟩
  · subst h1; omega
  · have := sized_slice hz ht (by rw [hd, h1]) hu
    rw [hb] at this
    have h3 : n * b ≤ (es.length + sp.length) * b := Nat.mul_le_mul_right _ (by omega)
    have h4 : reachBytes = 140737488351232 := by decide
    omega
theorem reach_str {ts : List TypeId} {ds : List (DataW H)} {j : Nat} {l : List UInt8} (hz : (DataW.weightsEach P ts ds).all (· ≤ reachBytes) = true) (ht : ts[j]? = some t) (hd : ds[j]? = some (.lit (.string l))) : l.length ≤ 140737488351232 := by
  have := sized_string hz ht hd
  have h4 : reachBytes = 140737488351232 := by decide
  omega
end
end Go.Eng
