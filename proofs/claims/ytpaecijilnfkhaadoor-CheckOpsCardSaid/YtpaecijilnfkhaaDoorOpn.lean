import Derived.Test.YtpaecijilnfkhaaDoorKit
/-
  Arguments of any shape, opened: what a type's cells say, as a value of plain Lean.
-/
namespace Go.Eng
open Go Go.RowKit Go.ChangeShapes Go.WideShapes Go.ChangeAt

section
variable {H : Type} (enc : TypeId × Value → H) (P : Program) (W : World)
def Light (P : Program) (t : TypeId) (d : DataW H) : Prop := ∀ x ∈ d.weights P t, x ≤ reachBytes
/-- What reads as type t is the cells of an x of which F stays true. -/
def Opn (t : TypeId) {α : Type} (cells : α → List Value) (F : World → α → Prop) : Prop :=
  ∀ fuel cs d ps, DataW.trod enc P W 0 (fun _ => true) true fuel t cs = some (d, ps) → Light P t d → ∃ x : α, cs = cells x ∧ Lasts W (fun w => F w x)
/-- fields from an offset on -/
def OpnS (size o : Nat) (fs : List Field) {α : Type} (cells : α → List Value) (F : World → α → Prop) : Prop :=
  ∀ (n : Nat) (cs : List Value) (xs : List (DataW H × List MemPlace)), cs.length = size → xs.length = fs.length →
    (∀ (i : Nat) (f : Field), fs[i]? = some f → DataW.trod enc P W 0 (fun _ => true) true n f.type ((cs.drop f.offset).take (P.cellsOf f.type)) = xs[i]?) →
    (∀ (i : Nat) (f : Field) y, fs[i]? = some f → xs[i]? = some y → Light P f.type y.1) → ∃ x : α, cs.drop o = cells x ∧ Lasts W (fun w => F w x)
end
section
variable {H : Type} {enc : TypeId × Value → H} {P : Program} {W : World} {t e : TypeId} {α β : Type}

theorem Opn.iso {cells : α → List Value} {F : World → α → Prop} {cells' : β → List Value} {F' : World → β → Prop} (h : Opn enc P W t cells F) (g : α → β) (hc : ∀ x, cells x = cells' (g x)) (hF : ∀ w x, F w x → F' w (g x)) : Opn enc P W t cells' F' :=
  fun fuel cs d ps ht hl => by
    obtain ⟨x, h1, h2⟩ := h fuel cs d ps ht hl
    exact ⟨g x, by rw [h1, hc], fun w' hb => hF w' x (h2 w' hb)⟩
theorem Opn.int {k : IntKind} (ht : P.underlying t = some (.int k)) : Opn enc P W t (fun z : Int => [.int k z]) (fun _ z => k.min ≤ z ∧ z ≤ k.max) := fun fuel cs d ps h _ => by
  obtain ⟨n, h1, h2, h3⟩ := DataW.trod_int ht h
  exact ⟨n, h1, fun _ _ => by simpa [Lit.wf] using h3⟩
theorem Opn.str (ht : P.underlying t = some .string) : Opn enc P W t (fun l : List UInt8 => [Go.Eng.str l]) (fun _ l => l.length ≤ 140737488351232) := fun fuel cs d ps h hl => by
  obtain ⟨s, h1, h2, h3⟩ := DataW.trod_string ht h
  injection h2 with h4 h5
  subst h4
  refine ⟨s.data.toList, by rw [h1], fun _ _ => ?_⟩
  have h6 := hl s.data.toList.length (by simp [DataW.weights])
  have h7 : reachBytes = 140737488351232 := by decide
  omega
theorem list_choose {α : Type} {p : Nat → α → Prop} : ∀ n, (∀ i, i < n → ∃ x, p i x) → ∃ l : List α, l.length = n ∧ ∀ i x, l[i]? = some x → p i x
  | 0, _ => ⟨[], rfl, fun i x h => by simp at h⟩
  | n + 1, h => by
    obtain ⟨l, h1, h2⟩ := list_choose n (fun i hi => h i (by omega))
    obtain ⟨x, hx⟩ := h n (by omega)
    refine ⟨l ++ [x], by simp [h1], fun i y hy => ?_⟩
    by_cases hi : i < n
    · rw [List.getElem?_append_left (by omega)] at hy; exact h2 i y hy
    · rw [List.getElem?_append_right (by omega)] at hy
      have h3 : i = n := by
        have := (List.getElem?_eq_some_iff.1 hy).1
        simp at this; omega
      subst h3
      rw [h1, Nat.sub_self] at hy
      simp at hy
      subst hy; exact hx
theorem flat_at {α : Type} {f : α → List Value} {n : Nat} (hf : ∀ x, (f x).length = n) (hn : 0 < n) : ∀ (l : List α) (j : Nat) (u : Value), (flat f l)[j]? = some u → ∃ i k x, j = i * n + k ∧ k < n ∧ l[i]? = some x ∧ (f x)[k]? = some u
  | [], j, u, h => by simp [flat] at h
  | x :: r, j, u, h => by
    have h0 : flat f (x :: r) = f x ++ flat f r := rfl
    rw [h0] at h
    by_cases hj : j < n
    · rw [List.getElem?_append_left (by rw [hf]; omega)] at h
      exact ⟨0, j, x, by omega, hj, rfl, h⟩
    · rw [List.getElem?_append_right (by rw [hf]; omega), hf] at h
      obtain ⟨i, k, y, h1, h2, h3, h4⟩ := flat_at hf hn r (j - n) u h
      exact ⟨i + 1, k, y, by rw [Nat.succ_mul]; omega, h2, h3, h4⟩
theorem light_slice {es sp : List (DataW H)} (ht : P.underlying t = some (.slice e)) (hl : Light P t (.slice es sp)) : es.length * P.bytesOf e ≤ 140737488351232 ∧ ∀ d ∈ es, Light P e d := by
  unfold Light at hl
  simp only [DataW.weights, ht] at hl
  have h7 : reachBytes = 140737488351232 := by decide
  constructor
  · have h1 := hl _ (List.mem_cons_self ..)
    have h2 : es.length * P.bytesOf e ≤ (es.length + sp.length) * P.bytesOf e := Nat.mul_le_mul_right _ (by omega)
    omega
  · intro d hd x hx
    refine hl x (List.mem_cons_of_mem _ (List.mem_append_left _ ?_))
    clear hl
    induction es with
    | nil => cases hd
    | cons a r ih =>
      simp only [DataW.weightsAll]
      rcases List.mem_cons.1 hd with rfl | h
      · exact List.mem_append_left _ hx
      · exact List.mem_append_right _ (ih h)
theorem Opn.slice {cells : α → List Value} {F : World → α → Prop} {n b : Nat} (ht : P.underlying t = some (.slice e)) (hn : P.cellsOf e = n) (hb : P.bytesOf e = b) (h0 : 0 < n) (hc : ∀ x, (cells x).length = n) (he : Opn enc P W e cells F) :
    Opn enc P W t (fun q : List α × Option Addr × Nat => [.slice q.2.1 q.1.length q.2.2]) (fun w q => RdF cells n w q.2.1 q.1 ∧ (q.1.length ≤ q.2.2 ∧ q.1.length * b ≤ 140737488351232) ∧ ∀ x ∈ q.1, F w x) := fun fuel cs d ps h hl => by
  rcases DataW.trod_slice ht h with ⟨h1, h2⟩ | ⟨a, len, cap, elems, rest, m, _, rfl, hx, _, hlc, _, hlen, hel, _, _⟩
  · exact ⟨([], none, 0), h1, fun _ _ => ⟨RdF.nil hc, ⟨Nat.zero_le _, by simp⟩, fun x hx => absurd hx (by simp)⟩⟩
  · injection hx with hx1 hx2
    subst hx1
    obtain ⟨hl1, hl2⟩ := light_slice ht hl
    rw [List.length_map, hlen, hb] at hl1
    have each : ∀ i, i < len → ∃ x : α, (∀ k u, (cells x)[k]? = some u → W.cell? (a.add (i * n + k)) = some u) ∧ Lasts W (fun w => F w x) := by
      intro i hi
      obtain ⟨y, hy⟩ : ∃ y, elems[i]? = some y := ⟨_, List.getElem?_eq_getElem (by omega)⟩
      have h3 := hel i hi
      rw [hy, hn, Option.bind_eq_some_iff] at h3
      obtain ⟨cs', h4, h5⟩ := h3
      obtain ⟨y1, y2⟩ := y
      obtain ⟨x, h6, h7⟩ := he m cs' y1 y2 h5 (hl2 y1 (List.mem_map.2 ⟨(y1, y2), List.mem_of_getElem? hy, rfl⟩))
      obtain ⟨_, h8, h9⟩ := World.cells?_some h4
      refine ⟨x, fun k u hu => ?_, h7⟩
      have hk : k < n := by rw [← hc x]; exact (List.getElem?_eq_some_iff.1 hu).1
      have := h9 k hk
      rw [h6, hu, add_add'] at this
      exact this
    obtain ⟨l, h10, h11⟩ := list_choose len each
    refine ⟨(l, some a, cap), by show [Value.slice (some a) len cap] = [Value.slice (some a) l.length cap]; rw [h10], ?_⟩
    have hrd : RdF cells n W (some a) l := ⟨hc, by rw [flat_length hc], fun _ => ⟨a, rfl, fun j u hu => by
      obtain ⟨i, k, x, rfl, _, h12, h13⟩ := flat_at hc h0 l j u hu
      exact (h11 i x h12).1 k u h13⟩⟩
    exact fun w' hb' => ⟨lasts_rdF hrd w' hb', ⟨by show l.length ≤ cap; omega, by show l.length * b ≤ _; rw [h10]; exact hl1⟩, fun x hx => by
      obtain ⟨i, hi⟩ := List.getElem?_of_mem hx
      exact (h11 i x hi).2 w' hb'⟩
theorem OpnS.nil {size : Nat} : OpnS enc P W size size [] (fun _ : Unit => []) (fun _ _ => True) := fun n cs xs hs _ _ _ => ⟨(), List.drop_eq_nil_of_le (by omega), fun _ _ => trivial⟩
theorem OpnS.cons {size o m : Nat} {f : Field} {fs : List Field} {c1 : α → List Value} {F1 : World → α → Prop} {c2 : β → List Value} {F2 : World → β → Prop} (ho : f.offset = o) (hm : P.cellsOf f.type = m)
    (h1 : Opn enc P W f.type c1 F1) (h2 : OpnS enc P W size (o + m) fs c2 F2) : OpnS enc P W size o (f :: fs) (fun p : α × β => c1 p.1 ++ c2 p.2) (fun w p => F1 w p.1 ∧ F2 w p.2) := fun n cs xs hs hxl hx hl => by
  cases xs with
  | nil => simp at hxl
  | cons y ys =>
    have h3 := hx 0 f rfl
    rw [ho, hm] at h3
    obtain ⟨y1, y2⟩ := y
    obtain ⟨x, h4, h5⟩ := h1 n _ y1 y2 h3 (hl 0 f (y1, y2) rfl rfl)
    obtain ⟨z, h6, h7⟩ := h2 n cs ys hs (by simpa using hxl) (fun i g hg => by simpa using hx (i + 1) g (by simpa using hg)) (fun i g y hg hy => hl (i + 1) g y (by simpa using hg) (by simpa using hy))
    refine ⟨(x, z), ?_, fun w' hb => ⟨h5 w' hb, h7 w' hb⟩⟩
    show cs.drop o = c1 x ++ c2 z
    rw [← h4, ← h6, ← List.drop_drop, List.take_append_drop]
theorem light_agg {fs : Array Field} {ds : List (DataW H)} (ht : P.underlying t = some (.struct fs)) (hl : Light P t (.agg ds)) : ∀ (i : Nat) (f : Field) y, fs.toList[i]? = some f → ds[i]? = some y → Light P f.type y := by
  unfold Light at hl
  simp only [DataW.weights, ht] at hl
  have key : ∀ (l : List Field) (ds : List (DataW H)), (∀ x ∈ DataW.weightsEach P (l.map (·.type)) ds, x ≤ reachBytes) → ∀ (i : Nat) (f : Field) y, l[i]? = some f → ds[i]? = some y → Light P f.type y := by
    intro l
    induction l with
    | nil => intro ds _ i f y h; simp at h
    | cons g r ih =>
      intro ds hl i f y hf hy
      cases ds with
      | nil => simp at hy
      | cons d q =>
        simp only [List.map_cons, DataW.weightsEach] at hl
        cases i with
        | zero =>
          simp at hf hy
          subst hf hy
          exact fun x hx => hl x (List.mem_append_left _ hx)
        | succ i => exact ih q (fun x hx => hl x (List.mem_append_right _ hx)) i f y (by simpa using hf) (by simpa using hy)
  exact key fs.toList ds hl
theorem Opn.struct {fs : Array Field} {cells : α → List Value} {F : World → α → Prop} {size : Nat} (ht : P.underlying t = some (.struct fs)) (hs : P.cellsOf t = size) (h : OpnS enc P W size 0 fs.toList cells F) : Opn enc P W t cells F := fun fuel cs d ps hd hl => by
  obtain ⟨xs, n, _, hx, hcl, hxl, hf⟩ := DataW.trod_struct ht hd
  injection hx with hx1 hx2
  subst hx1
  have hla := light_agg ht hl
  obtain ⟨x, h1, h2⟩ := h n cs xs (by rw [hcl, hs]) (by simpa using hxl) (fun i f hi => hf i f (by simpa using hi)) (fun i f y hi hy => hla i f y.1 hi (by simp [hy]))
  exact ⟨x, by simpa using h1, h2⟩
theorem Opn.bool (ht : P.underlying t = some .bool) : Opn enc P W t (fun b : Bool => [.bool b]) (fun _ _ => True) := fun fuel cs d ps h _ => by
  cases fuel with
  | zero => simp [DataW.trod] at h
  | succ n =>
    unfold DataW.trod at h
    rw [ht] at h
    split at h <;> simp_all
    exact fun _ _ => trivial
theorem light_arg {ts : List TypeId} {ds : List (DataW H)} {j : Nat} {t : TypeId} {d : DataW H} (hz : (DataW.weightsEach P ts ds).all (· ≤ reachBytes) = true) (ht : ts[j]? = some t) (hd : ds[j]? = some d) : Light P t d := by
  intro x hx
  have h1 : ∀ y ∈ DataW.weightsEach P ts ds, y ≤ reachBytes := fun y hy => by simpa using List.all_eq_true.1 hz y hy
  clear hz
  induction ts generalizing ds j with
  | nil => simp at ht
  | cons a r ih =>
    cases ds with
    | nil => simp at hd
    | cons b q =>
      simp only [DataW.weightsEach] at h1
      cases j with
      | zero =>
        simp at ht hd
        subst ht hd
        exact h1 x (List.mem_append_left _ hx)
      | succ j => exact ih (by simpa using ht) (by simpa using hd) (fun y hy => h1 y (List.mem_append_right _ hy))
theorem open_sl {F : World → (List α × Option Addr × Nat) → Prop} {v : Value} {d : DataW H} {ps : List MemPlace} {base : Nat} (ht : P.underlying t = some (.slice e)) (hv : Value.okWide P W .any base t v)
    (h : DataW.Trod enc P W 0 (fun _ => true) true t v d ps) (hl : Light P t d) (ho : Opn enc P W t (fun q : List α × Option Addr × Nat => [.slice q.2.1 q.1.length q.2.2]) F) :
    ∃ (M : List α) (A : Option Addr) (c : Nat), v = .slice A M.length c ∧ Lasts W (fun w => F w (M, A, c)) := by
  obtain ⟨a, n, c, rfl⟩ := okWide_slice ht hv
  obtain ⟨fuel, hf⟩ := h
  obtain ⟨⟨M, A, c'⟩, h1, h2⟩ := ho fuel _ d ps hf hl
  rw [cells_slice] at h1
  injection h1 with h1
  exact ⟨M, A, c', h1, h2⟩
theorem open_st {fs : Array Field} {cells : α → List Value} {F : World → α → Prop} {v : Value} {d : DataW H} {ps : List MemPlace} {base : Nat} (ht : P.underlying t = some (.struct fs)) (hv : Value.okWide P W .any base t v)
    (h : DataW.Trod enc P W 0 (fun _ => true) true t v d ps) (hl : Light P t d) (ho : Opn enc P W t cells F) : ∃ x, v = .agg (cells x).toArray ∧ Lasts W (fun w => F w x) := by
  obtain ⟨cs, rfl, _⟩ := okWide_struct ht hv
  obtain ⟨fuel, hf⟩ := h
  obtain ⟨x, h1, h2⟩ := ho fuel _ d ps hf hl
  exact ⟨x, by rw [← h1]; rfl, h2⟩
theorem Lasts.pure {p : Prop} (h : Lasts W (fun _ => p)) : p := h W (Below.refl _ _)
theorem Lasts.now {I : World → Prop} (h : Lasts W I) : I W := h W (Below.refl _ _)
theorem Lasts.imp {I J : World → Prop} (h : Lasts W I) (hj : ∀ w, I w → J w) : Lasts W J := fun w' hb => hj w' (h w' hb)
end
end Go.Eng
