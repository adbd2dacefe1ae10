/-
  From a function's entry to a row's statement: the arguments are opened, nothing old has turned, so all reads as before.
-/
import Derived.Test.YtjpejkeobcdobaaDoorQAD
import Derived.Carry
import Derived.ChangeSame
import Derived.ChangeMaps5
import Derived.SizedLaws
import Derived.ChangeSlices
import Derived.SliceStrings
import Derived.ProofKit
import Derived.OpenShut
import Derived.Deep.DeepHandedRow
import Derived.Lib.LaidTab
import Derived.Test.YtjpejkeobcdobaaDoorQAE
namespace Go.Lf
open Go Go.Eng Go.RowKit Go.ChangeShapes Go.WideShapes Go.ChangeMaps Go.ChangeAt

section
variable {H : Type} {enc : TypeId × Value → H} {P : Program}
def allRead (P : Program) (ts : List TypeId) : Bool := ts.all fun t => P.readableRec t && decide (t < P.types.size)
theorem trodAll_stay (hl : laidOutB P = true) {W W' : World} (hb : Below W.heap.size W W') : ∀ (ts : List TypeId) (vs : List Value) (ds : List (DataW H)) (ps : List MemPlace), allRead P ts = true →
    DataW.TrodAll enc P W 0 (fun _ => true) true ts vs ds ps → (∀ x ∈ ps, x.block < W.heap.size) → DataW.TrodAll enc P W' 0 (fun b => decide (b < W.heap.size)) true ts vs ds ps
  | [], [], [], _, _, h, _ => h
  | [], _ :: _, _, _, _, h, _ => h.elim
  | [], [], _ :: _, _, _, h, _ => h.elim
  | _ :: _, [], _, _, _, h, _ => h.elim
  | _ :: _, _ :: _, [], _, _, h, _ => h.elim
  | t :: ts, v :: vs, d :: ds, ps, hr, h, hlt => by
    obtain ⟨p, q, h1, h2, rfl⟩ := h
    simp only [allRead, List.all_cons, Bool.and_eq_true, decide_eq_true_eq] at hr
    exact ⟨p, q, Below.trod hl hr.1.1 hr.1.2 h1 hb (fun x hx => hlt x (List.mem_append_left _ hx)), trodAll_stay hl hb ts vs ds q hr.2 h2 (fun x hx => hlt x (List.mem_append_right _ hx)), rfl⟩
/-- The law answered true, and nothing old has turned. -/
theorem law_post {f : Func} {s : ChangeSpec} {W W' : World} {args : Array Value} {ds gs : List (DataW H)} {before : List MemPlace} {tb : TypeId} (hl : laidOutB P = true) (hr : allRead P f.params.toList = true) (hv : s.vars = [])
    (hres : f.resultTypes = #[tb]) (htb : P.underlying tb = some .bool) (hW : DataW.Whole enc P f.params.toList s.vars false W args.toList ds gs before)
    (hs : s.fn H (ds ++ gs) = { results := [.lit (.bool true)], args := ds, vars := [] }) (hb : Below W.heap.size W W') : s.post enc P f false true false false W args (.bool true) W' := by
  have hlt : ∀ p ∈ before, p.block < W.heap.size := fun p hp => hW.lt p hp
  have hW0 := hW
  obtain ⟨p, q, hA, hV, hps, _, _⟩ := hW
  rw [hv] at hV
  obtain ⟨rfl, rfl⟩ := trodVars_none hV
  refine ⟨ds, [], before, [], p, [], hW0, ?_, ?_, ?_, hb.frame _, fun h => by cases h⟩
  · rw [hs, hres]
    exact trodAll_mk1 (shut_bool htb true)
  · rw [hs]
    exact trodAll_stay hl hb _ _ _ _ hr hA (fun x hx => hlt x (by rw [hps]; exact List.mem_append_left _ hx))
  · rw [hs, hv]
    rfl
end

/-- The state that a law begins with. -/
def start (W : World) : Cx := ⟨W, [], fun _ => none⟩
def Lasts (W : World) (I : World → Prop) : Prop := ∀ w', Below W.heap.size W w' → I w'
theorem Lasts.and {W : World} {I J : World → Prop} (h : Lasts W I) (k : Lasts W J) : Lasts W (fun w => I w ∧ J w) := fun w' hb => ⟨h w' hb, k w' hb⟩
theorem Lasts.of {W : World} {p : Prop} (h : p) : Lasts W (fun _ => p) := fun _ _ => h
theorem hb_start {W : World} {I : World → Prop} (h : Lasts W I) : Hb (start W) (start W).w0 [] I :=
  ⟨⟨rfl, rfl, rfl, Nat.le_refl _, fun _ _ _ => rfl, fun c hc => absurd hc (by simp [start]), fun c hc => absurd hc (by simp [start]), fun c hc => absurd hc (by simp), fun c hc => absurd hc (by simp), List.Pairwise.nil, fun k m hk => by cases hk⟩,
   fun w' hx => h w' ⟨hx.os, hx.tape, hx.output, hx.size, fun k hk => hx.block k hk rfl (fun c hc => absurd hc (by simp))⟩⟩
theorem cell_lt {W : World} {a : Addr} {v : Value} (h : W.cell? a = some v) : a.block < W.heap.size := by
  rcases Nat.lt_or_ge a.block W.heap.size with h1 | h1
  · exact h1
  · simp [World.cell?, Array.getElem?_eq_none h1] at h
/-- all memory, as it lies -/
def phiOf (W : World) : Phi := fun a => W.cell? a
theorem lasts_agree (W : World) : Lasts W (Agree (phiOf W)) := fun _ hb a _ h => (hb.cell (cell_lt h)).trans h
theorem lasts_var {P : Program} {W : World} {name : String} {cs : Array Value} (h : W.var? P name = some cs) : Lasts W (fun w => w.var? P name = some cs) := fun w' hb => by
  unfold World.var? at *
  cases hg : P.globalNamed name with
  | none => rw [hg] at h; simp at h
  | some g =>
    rw [hg] at h
    simp only [Option.bind_some] at *
    by_cases hlt : g < W.heap.size
    · rw [hb.block g hlt]; exact h
    · rw [Array.getElem?_eq_none (by omega)] at h; simp at h
theorem law_calls {P : Program} {G : World → Prop} {f : Nat} {e : Entry} {z : prodT (e.ps.map Par.ty)} {W : World} {vals : List Value} (he : EntryOk P G f e) (hr : e.rs = [.bool]) (ho : outs e.ps = []) {r : prodT (e.rs ++ outs e.ps)} (hz : e.f z = some r) (ht : unProd (e.rs ++ outs e.ps) r = [⟨.bool, true⟩])
    (ha : ArgsR (phiOf W) e.ps z vals [] []) (hG : Lasts W G) : Calls P f vals.toArray W fun e W' => e = .returned (.bool true) ∧ Below W.heap.size W W' := by
  refine Calls.mono (he.ok z r hz (start W) (phiOf W) vals [] [] ha (hb_start (hG.and (lasts_agree W)))) ?_
  rintro x w' ⟨v, φ', h1, h2, rfl, _, hb, ⟨vs, hv, rfl⟩, _⟩
  rw [ht, hr] at hv
  refine ⟨?_, hb.hp.os, hb.hp.tape, hb.hp.output, hb.hp.size, fun k hk => hb.hp.keep k hk (by simp [start, free])⟩
  cases hv with
  | cons a1 a2 a3 =>
    cases a3
    obtain ⟨rfl, _⟩ := a2
    rfl

/-! ### The arguments -/
section
variable {H : Type} (enc : TypeId × Value → H) (P : Program) (W : World)
def Light (P : Program) (t : TypeId) (d : DataW H) : Prop := ∀ x ∈ d.weights P t, x ≤ reachBytes
end
def rnd (o a : Nat) : Nat := (o + a - 1) / a * a
/-- how a type lies in bytes: its alignment -/
def Ty.aln : Ty → Nat
  | .int k => k.bits / 8
  | .bool => 1
  | .unit => 1
  | .st t => t.aln
  | .pr a b => max a.aln b.aln
  | _ => 8
mutual
def Ty.byt : Ty → Nat
  | .int k => k.bits / 8
  | .bool => 1
  | .str => 16
  | .sl _ => 24
  | .rw _ _ => 24
  | .mr _ _ => 24
  | .it => 8
  | .itd => 8
  | .dead _ _ => 24
  | .eb _ _ => 16
  | .op _ => 8
  | .ptr _ => 8
  | .st t => rnd (t.end_ 0) t.aln
  | _ => 0
/-- the end of a struct's fields from an offset on -/
def Ty.end_ : Ty → Nat → Nat
  | .pr a b, o => b.end_ (rnd o a.aln + a.byt)
  | _, o => o
end
/-- numbers that are of their kinds, lengths that lie in memory -/
def Wf : (t : Ty) → t.den → Prop
  | .int k, x => k.min ≤ x ∧ x ≤ k.max
  | .str, x => List.length x ≤ 140737488351232
  | .sl t, l => List.length l * t.byt ≤ 140737488351232 ∧ ∀ x ∈ (l : List t.den), Wf t x
  | .st t, x => Wf t x
  | .pr a b, x => Wf a x.1 ∧ Wf b x.2
  | _, _ => True
/-- how much a value holds -/
def Sz : (t : Ty) → t.den → Nat
  | .str, x => List.length x
  | .sl t, l => ((l : List t.den).map (Sz t)).sum + List.length l
  | .st t, x => Sz t x
  | .pr a b, x => Sz a x.1 + Sz b x.2
  | _, _ => 0
mutual
/-- how much data hold -/
def bulk {H : Type} : DataW H → Nat
  | .lit (.string b) => b.length
  | .slice es _ => bulkAll es + es.length
  | .agg ps => bulkAll ps
  | _ => 0
def bulkAll {H : Type} : List (DataW H) → Nat
  | [] => 0
  | d :: r => bulk d + bulkAll r
end
theorem bulkAll_map {H : Type} : ∀ l : List (DataW H), bulkAll l = (l.map bulk).sum
  | [] => rfl
  | d :: r => by
    rw [bulkAll, bulkAll_map r]; rfl
theorem sum_le2 {α β : Type} {f : α → Nat} {g : β → Nat} : ∀ {l : List α} {m : List β}, l.length = m.length → (∀ (i : Nat) x y, l[i]? = some x → m[i]? = some y → f x ≤ g y) → (l.map f).sum ≤ (m.map g).sum
  | [], [], _, _ => Nat.le_refl _
  | [], _ :: _, h, _ => by simp at h
  | _ :: _, [], h, _ => by simp at h
  | x :: l, y :: m, h, hR => by
    have h1 := hR 0 x y rfl rfl
    have h2 := sum_le2 (l := l) (m := m) (by simpa using h) fun i a b ha hb => hR (i + 1) a b (by simpa using ha) (by simpa using hb)
    simp only [List.map_cons, List.sum_cons]
    omega
/-- a type's number says this type -/
def opB (P : Program) : Ty → TypeId ⊕ (List Field × Nat) → Bool
  | .int k, .inl t => match P.underlying t with | some (.int k') => decide (k = k') | _ => false
  | .bool, .inl t => match P.underlying t with | some .bool => true | _ => false
  | .str, .inl t => match P.underlying t with | some .string => true | _ => false
  | .sl a, .inl t => match P.underlying t with | some (.slice e) => Nat.beq (P.cellsOf e) a.size && Nat.blt 0 a.size && Nat.beq (P.bytesOf e) a.byt && opB P a (.inl e) | _ => false
  | .st c, .inl t => match P.underlying t with | some (.struct fs) => Nat.beq (P.cellsOf t) c.size && opB P c (.inr (fs.toList, 0)) | _ => false
  | .pr a b, .inr (f :: fs, o) => Nat.beq f.offset o && Nat.beq (P.cellsOf f.type) a.size && opB P a (.inl f.type) && opB P b (.inr (fs, o + a.size))
  | .unit, .inr ([], _) => true
  | _, _ => false

section
variable {H : Type} (enc : TypeId × Value → H) (P : Program) (W : World)
def OpnT (t : TypeId) (a : Ty) : Prop :=
  ∀ fuel cs d ps, DataW.trod enc P W 0 (fun _ => true) true fuel t cs = some (d, ps) → Light P t d → ∃ x : a.den, Rp (phiOf W) a x cs [] ∧ Wf a x ∧ Sz a x ≤ bulk d
def OpnF (size o : Nat) (fs : List Field) (a : Ty) : Prop :=
  ∀ (n : Nat) (cs : List Value) (xs : List (DataW H × List MemPlace)), cs.length = size → xs.length = fs.length →
    (∀ (i : Nat) (f : Field), fs[i]? = some f → DataW.trod enc P W 0 (fun _ => true) true n f.type ((cs.drop f.offset).take (P.cellsOf f.type)) = xs[i]?) →
    (∀ (i : Nat) (f : Field) y, fs[i]? = some f → xs[i]? = some y → Light P f.type y.1) → o + a.size = size → ∃ x : a.den, Rp (phiOf W) a x (cs.drop o) [] ∧ Wf a x ∧ Sz a x ≤ bulkAll (xs.map (·.1))
end
section
variable {H : Type} {enc : TypeId × Value → H} {P : Program} {W : World} {t e : TypeId}
theorem light_slice {es sp : List (DataW H)} (ht : P.underlying t = some (.slice e)) (hl : Light P t (.slice es sp)) : es.length * P.bytesOf e ≤ 140737488351232 ∧ ∀ d ∈ es, Light P e d := by
  unfold Light at hl
  simp only [DataW.weights, ht] at hl
  have h7 : reachBytes = 140737488351232 := by decide
  constructor
  · have h1 := hl _ (List.mem_cons_self ..)
    have h2 : es.length * P.bytesOf e ≤ (es.length + sp.length) * P.bytesOf e := Nat.mul_le_mul_right _ (by omega)
    omega
  · intro d hd x hx
    refine hl x (List.mem_cons_of_mem _ (List.mem_append_left _ ?_))
    clear hl
    induction es with
    | nil => cases hd
    | cons a r ih =>
      simp only [DataW.weightsAll]
      rcases List.mem_cons.1 hd with rfl | h
      · exact List.mem_append_left _ hx
      · exact List.mem_append_right _ (ih h)
theorem light_agg {fs : Array Field} {ds : List (DataW H)} (ht : P.underlying t = some (.struct fs)) (hl : Light P t (.agg ds)) : ∀ (i : Nat) (f : Field) y, fs.toList[i]? = some f → ds[i]? = some y → Light P f.type y := by
  unfold Light at hl
  simp only [DataW.weights, ht] at hl
  have key : ∀ (l : List Field) (ds : List (DataW H)), (∀ x ∈ DataW.weightsEach P (l.map (·.type)) ds, x ≤ reachBytes) → ∀ (i : Nat) (f : Field) y, l[i]? = some f → ds[i]? = some y → Light P f.type y := by
    intro l
    induction l with
    | nil => intro ds _ i f y h; simp at h
    | cons g r ih =>
      intro ds hl i f y hf hy
      cases ds with
      | nil => simp at hy
      | cons d q =>
        simp only [List.map_cons, DataW.weightsEach] at hl
        cases i with
        | zero =>
          simp at hf hy
          subst hf hy
          exact fun x hx => hl x (List.mem_append_left _ hx)
        | succ i => exact ih q (fun x hx => hl x (List.mem_append_right _ hx)) i f y (by simpa using hf) (by simpa using hy)
  exact key fs.toList ds hl
theorem list_choose {α : Type} {p : Nat → α → Prop} : ∀ n, (∀ i, i < n → ∃ x, p i x) → ∃ l : List α, l.length = n ∧ ∀ i x, l[i]? = some x → p i x
  | 0, _ => ⟨[], rfl, fun i x h => by simp at h⟩
  | n + 1, h => by
    obtain ⟨l, h1, h2⟩ := list_choose n (fun i hi => h i (by omega))
    obtain ⟨x, hx⟩ := h n (by omega)
    refine ⟨l ++ [x], by simp [h1], fun i y hy => ?_⟩
    by_cases hi : i < n
    · rw [List.getElem?_append_left (by omega)] at hy; exact h2 i y hy
    · rw [List.getElem?_append_right (by omega)] at hy
      have h3 : i = n := by
        have := (List.getElem?_eq_some_iff.1 hy).1
        simp at this; omega
      subst h3
      rw [h1, Nat.sub_self] at hy
      simp at hy
      subst hy; exact hx
theorem all2_of {α β : Type} {R : α → β → Prop} : ∀ {l : List α} {m : List β}, l.length = m.length → (∀ (i : Nat) x y, l[i]? = some x → m[i]? = some y → R x y) → All2 R l m
  | [], [], _, _ => .nil
  | [], _ :: _, h, _ => by simp at h
  | _ :: _, [], h, _ => by simp at h
  | x :: l, y :: m, h, hR => .cons (hR 0 x y rfl rfl) (all2_of (by simpa using h) fun i a b ha hb => hR (i + 1) a b (by simpa using ha) (by simpa using hb))
/-- cells of a flat list of lists of one length -/
theorem flat_at {s : Nat} (hs : 0 < s) : ∀ (l : List (List Value)), (∀ c ∈ l, c.length = s) → ∀ (j : Nat) (v : Value), l.flatten[j]? = some v → ∃ i k c, j = i * s + k ∧ l[i]? = some c ∧ c[k]? = some v
  | [], _, j, v, h => by simp at h
  | d :: r, hl, j, v, h => by
    have h1 := hl d List.mem_cons_self
    rw [List.flatten_cons] at h
    by_cases hj : j < s
    · rw [List.getElem?_append_left (by omega)] at h
      exact ⟨0, j, d, by omega, rfl, h⟩
    · rw [List.getElem?_append_right (by omega), h1] at h
      obtain ⟨i, k, c, e1, e2, e3⟩ := flat_at hs r (fun c hc => hl c (List.mem_cons_of_mem _ hc)) (j - s) v h
      exact ⟨i + 1, k, c, by rw [Nat.succ_mul]; omega, by simpa using e2, e3⟩

theorem opn_ok : ∀ (a : Ty), (∀ t, opB P a (.inl t) = true → OpnT enc P W t a) ∧ (∀ fs o size, opB P a (.inr (fs, o)) = true → OpnF enc P W size o fs a)
  | .int k => by
    refine ⟨fun t h => ?_, fun fs o size h => by cases fs <;> simp [opB] at h⟩
    · skip
      unfold opB at h
      split at h
      · rename_i k' hu
        have h := of_decide_eq_true h
        subst h
        intro fuel cs d ps ht _
        obtain ⟨n, h1, h2, h3⟩ := DataW.trod_int hu ht
        exact ⟨n, ⟨h1, rfl⟩, by
          have h4 : k.min ≤ n ∧ n ≤ k.max := by simpa [Lit.wf] using h3
          exact ⟨h4, Nat.zero_le _⟩⟩
      · cases h
  | .bool => by
    refine ⟨fun t h => ?_, fun fs o size h => by cases fs <;> simp [opB] at h⟩
    · skip
      unfold opB at h
      split at h
      · rename_i hu
        intro fuel cs d ps ht _
        cases fuel with
        | zero => simp [DataW.trod] at ht
        | succ n =>
          unfold DataW.trod at ht
          rw [hu] at ht
          split at ht <;> simp_all [Rp, Wf, Sz]
      · cases h
  | .str => by
    refine ⟨fun t h => ?_, fun fs o size h => by cases fs <;> simp [opB] at h⟩
    · skip
      unfold opB at h
      split at h
      · rename_i hu
        intro fuel cs d ps ht hl
        obtain ⟨s, h1, h2, h3⟩ := DataW.trod_string hu ht
        injection h2 with h4 h5
        subst h4
        refine ⟨s.data.toList, ⟨by rw [h1], rfl⟩, ?_⟩
        have h6 := hl s.data.toList.length (by simp [DataW.weights])
        have h7 : reachBytes = 140737488351232 := by decide
        refine ⟨?_, Nat.le_refl _⟩
        show s.data.toList.length ≤ _
        omega
      · cases h
  | .unit => ⟨fun t h => by simp [opB] at h, fun fs o size h => by
      cases fs with
      | cons f r => simp [opB] at h
      | nil =>
        intro n cs xs hs _ _ _ hz
        have : o = cs.length := by rw [hs]; exact hz
        exact ⟨(), ⟨List.drop_eq_nil_of_le (by omega), rfl⟩, trivial, Nat.zero_le _⟩⟩
  | .sl a => by
    refine ⟨fun t h => ?_, fun fs o size h => by cases fs <;> simp [opB] at h⟩
    · skip
      unfold opB at h
      split at h
      case h_2 => cases h
      case h_1 e hu =>
      simp only [Bool.and_eq_true] at h
      obtain ⟨⟨⟨h1, h2⟩, h3⟩, h4⟩ := h
      have hn := Nat.eq_of_beq_eq_true h1
      have h0 : 0 < a.size := by simpa [Nat.blt_eq] using h2
      have hb := Nat.eq_of_beq_eq_true h3
      have he := (opn_ok a).1 e h4
      intro fuel cs d ps hd hl
      rcases DataW.trod_slice hu hd with ⟨g1, g2⟩ | ⟨ad, len, cap, elems, rest, m, _, rfl, hx, _, hlc, _, hlen, hel, _, _⟩
      · exact ⟨([] : List a.den), ⟨none, 0, [], g1, Nat.le_refl _, .nil, fun hn => absurd hn (by simp), rfl⟩, by simp [Wf], Nat.zero_le _⟩
      · injection hx with hx1 hx2
        subst hx1
        obtain ⟨hl1, hl2⟩ := light_slice hu hl
        rw [List.length_map, hlen, hb] at hl1
        have each : ∀ i, i < len → ∃ q : a.den × List Value, Rp (phiOf W) a q.1 q.2 [] ∧ Wf a q.1 ∧ (∀ k u, q.2[k]? = some u → W.cell? (ad.add (i * a.size + k)) = some u) ∧ ∀ y, elems[i]? = some y → Sz a q.1 ≤ bulk y.1 := by
          intro i hi
          obtain ⟨y, hy⟩ : ∃ y, elems[i]? = some y := ⟨_, List.getElem?_eq_getElem (by omega)⟩
          have h3 := hel i hi
          rw [hy, hn, Option.bind_eq_some_iff] at h3
          obtain ⟨cs', h4, h5⟩ := h3
          obtain ⟨y1, y2⟩ := y
          obtain ⟨x, h6, h7, h7b⟩ := he m cs' y1 y2 h5 (hl2 y1 (List.mem_map.2 ⟨(y1, y2), List.mem_of_getElem? hy, rfl⟩))
          obtain ⟨_, h8, h9⟩ := World.cells?_some h4
          refine ⟨(x, cs'), h6, h7, fun k u hu => ?_, fun y' hy' => (by rw [hy] at hy'; injection hy' with hy'; rw [← hy']; exact h7b)⟩
          have hk : k < a.size := by rw [← h6.len]; exact (List.getElem?_eq_some_iff.1 hu).1
          have := h9 k hk
          rw [hu, add_add'] at this
          exact this
        obtain ⟨l, h10, h11⟩ := list_choose len each
        have hll : (l.map (·.1)).length = len := by rw [List.length_map, h10]
        have hall : All2 (fun x cs => Rp (phiOf W) a x cs []) (l.map (·.1)) (l.map (·.2)) := all2_of (by simp) fun i x y hx hy => by
          rw [List.getElem?_map] at hx hy
          cases hq : l[i]? with
          | none => rw [hq] at hx; cases hx
          | some q =>
            rw [hq] at hx hy
            simp only [Option.map_some, Option.some.injEq] at hx hy
            subst hx hy
            exact (h11 i q hq).1
        refine ⟨l.map (·.1), ⟨some ad, cap, l.map (·.2), ?_, ?_, hall, fun _ => ⟨ad, rfl, fun j v hv => ?_⟩, rfl⟩, ⟨?_, fun x hx => ?_⟩, ?_⟩
        · show [Value.slice (some ad) len cap] = [Value.slice (some ad) (l.map (·.1)).length cap]
          rw [hll]
        · show (l.map (·.1)).length ≤ cap
          omega
        · obtain ⟨i, k, c, rfl, e2, e3⟩ := flat_at h0 (l.map (·.2)) (fun c hc => by
            obtain ⟨q, hq, rfl⟩ := List.mem_map.1 hc
            obtain ⟨i, hi⟩ := List.getElem?_of_mem hq
            exact (h11 i q hi).1.len) j v hv
          rw [List.getElem?_map] at e2
          cases hq : l[i]? with
          | none => rw [hq] at e2; cases e2
          | some q =>
            rw [hq] at e2
            simp only [Option.map_some, Option.some.injEq] at e2
            subst e2
            exact (h11 i q hq).2.2.1 k v e3
        · show (l.map (·.1)).length * a.byt ≤ _
          rw [hll]; exact hl1
        · obtain ⟨q, hq, rfl⟩ := List.mem_map.1 hx
          obtain ⟨i, hi⟩ := List.getElem?_of_mem hq
          exact (h11 i q hi).2.1
        · show ((l.map (·.1)).map (Sz a)).sum + (l.map (·.1)).length ≤ bulkAll (elems.map (·.1)) + (elems.map (·.1)).length
          rw [bulkAll_map, hll, List.length_map, hlen]
          refine Nat.add_le_add_right (sum_le2 (by rw [hll, List.length_map, hlen]) fun i x y hx hy => ?_) _
          rw [List.getElem?_map] at hx hy
          cases hq : l[i]? with
          | none => rw [hq] at hx; cases hx
          | some q =>
            cases he2 : elems[i]? with
            | none => rw [he2] at hy; cases hy
            | some z =>
              rw [hq] at hx
              rw [he2] at hy
              simp only [Option.map_some, Option.some.injEq] at hx hy
              subst hx hy
              exact (h11 i q hq).2.2.2 z he2
  | .st c => by
    refine ⟨fun t h => ?_, fun fs o size h => by cases fs <;> simp [opB] at h⟩
    · skip
      unfold opB at h
      split at h
      case h_2 => cases h
      case h_1 fs hu =>
      simp only [Bool.and_eq_true] at h
      have hs := Nat.eq_of_beq_eq_true h.1
      have hF := (opn_ok c).2 fs.toList 0 c.size h.2
      intro fuel cs d ps hd hl
      obtain ⟨xs, n, _, hx, hcl, hxl, hf⟩ := DataW.trod_struct hu hd
      injection hx with hx1 hx2
      subst hx1
      have hla := light_agg hu hl
      obtain ⟨x, h1, h2, h3⟩ := hF n cs xs (by rw [hcl, hs]) (by simpa using hxl) (fun i f hi => hf i f (by simpa using hi)) (fun i f y hi hy => hla i f y.1 hi (by simp [hy])) (by simp)
      have h1 : Rp (phiOf W) c x cs [] := by simpa using h1
      exact ⟨x, h1, h2, h3⟩
  | .pr a b => ⟨fun t h => by simp [opB] at h, fun fs o size h => by
      cases fs with
      | nil => simp [opB] at h
      | cons f fs =>
        unfold opB at h
        simp only [Bool.and_eq_true] at h
        obtain ⟨⟨⟨h1, h2⟩, h3⟩, h4⟩ := h
        have ho := Nat.eq_of_beq_eq_true h1
        have hm := Nat.eq_of_beq_eq_true h2
        have ha := (opn_ok a).1 _ h3
        have hb := (opn_ok b).2 fs (o + a.size) size h4
        intro n cs xs hs hxl hx hl hz
        cases xs with
        | nil => simp at hxl
        | cons y ys =>
          have h3 := hx 0 f rfl
          rw [ho, hm] at h3
          obtain ⟨y1, y2⟩ := y
          obtain ⟨x, g1, g2, g2b⟩ := ha n _ y1 y2 h3 (hl 0 f (y1, y2) rfl rfl)
          obtain ⟨z, g3, g4, g4b⟩ := hb n cs ys hs (by simpa using hxl) (fun i g hg => by simpa using hx (i + 1) g (by simpa using hg)) (fun i g y hg hy => hl (i + 1) g y (by simpa using hg) (by simpa using hy)) (by rw [← hz]; simp [Ty.size]; omega)
          refine ⟨(x, z), ⟨_, _, [], [], ?_, rfl, g1, g3⟩, ⟨g2, g4⟩, Nat.add_le_add g2b g4b⟩
          rw [← List.drop_drop, List.take_append_drop]⟩
  | .it => ⟨fun t h => by simp [opB] at h, fun fs o size h => by cases fs <;> simp [opB] at h⟩
  | .itd => ⟨fun t h => by simp [opB] at h, fun fs o size h => by cases fs <;> simp [opB] at h⟩
  | .dead _ _ => ⟨fun t h => by simp [opB] at h, fun fs o size h => by cases fs <;> simp [opB] at h⟩
  | .rw _ _ => ⟨fun t h => by simp [opB] at h, fun fs o size h => by cases fs <;> simp [opB] at h⟩
  | .mr _ _ => ⟨fun t h => by simp [opB] at h, fun fs o size h => by cases fs <;> simp [opB] at h⟩
  | .ptr _ => ⟨fun t h => by simp [opB] at h, fun fs o size h => by cases fs <;> simp [opB] at h⟩
  | .eb _ _ => ⟨fun t h => by simp [opB] at h, fun fs o size h => by cases fs <;> simp [opB] at h⟩
  | .op _ => ⟨fun t h => by simp [opB] at h, fun fs o size h => by cases fs <;> simp [opB] at h⟩

theorem light_arg {ts : List TypeId} {ds : List (DataW H)} {j : Nat} {t : TypeId} {d : DataW H} (hz : (DataW.weightsEach P ts ds).all (· ≤ reachBytes) = true) (ht : ts[j]? = some t) (hd : ds[j]? = some d) : Light P t d := by
  intro x hx
  have h1 : ∀ y ∈ DataW.weightsEach P ts ds, y ≤ reachBytes := fun y hy => by simpa using List.all_eq_true.1 hz y hy
  clear hz
  induction ts generalizing ds j with
  | nil => simp at ht
  | cons a r ih =>
    cases ds with
    | nil => simp at hd
    | cons b q =>
      simp only [DataW.weightsEach] at h1
      cases j with
      | zero =>
        simp at ht hd
        subst ht hd
        exact h1 x (List.mem_append_left _ hx)
      | succ j => exact ih (by simpa using ht) (by simpa using hd) (fun y hy => h1 y (List.mem_append_right _ hy))
/-- an argument, opened -/
theorem open_argB {a : Ty} {v : Value} {d : DataW H} {ps : List MemPlace} {base : Nat} (ha : opB P a (.inl t) = true) (hv : Value.okWide P W .any base t v) (h : DataW.Trod enc P W 0 (fun _ => true) true t v d ps) (hl : Light P t d) :
    ∃ (x : a.den) (cs : List Value), a.top = true ∧ v = sv a cs ∧ Rp (phiOf W) a x cs [] ∧ Wf a x ∧ Sz a x ≤ bulk d := by
  obtain ⟨fuel, hf⟩ := h
  obtain ⟨x, h1, h2, h2b⟩ := (opn_ok (enc := enc) (W := W) a).1 t ha fuel _ d ps hf hl
  refine ⟨x, v.cells.toList, ?_, ?_, h1, h2, h2b⟩
  · cases a <;> first | rfl | (simp [opB] at ha; done)
  · cases a <;> first | (simp [opB] at ha; done) | skip
    all_goals unfold opB at ha
    all_goals split at ha <;> first | (cases ha; done) | skip
    all_goals rename_i hu
    · obtain ⟨n, rfl⟩ := okWide_int hu hv; rfl
    · obtain ⟨n, rfl⟩ := okWide_bool hu hv; rfl
    · obtain ⟨n, rfl⟩ := okWide_string hu hv; rfl
    · obtain ⟨A, n, c, rfl⟩ := okWide_slice hu hv; rfl
    · obtain ⟨cs, rfl, _⟩ := okWide_struct hu hv; rfl
theorem open_arg {a : Ty} {v : Value} {d : DataW H} {ps : List MemPlace} {base : Nat} (ha : opB P a (.inl t) = true) (hv : Value.okWide P W .any base t v) (h : DataW.Trod enc P W 0 (fun _ => true) true t v d ps) (hl : Light P t d) :
    ∃ (x : a.den) (cs : List Value), a.top = true ∧ v = sv a cs ∧ Rp (phiOf W) a x cs [] ∧ Wf a x :=
  let ⟨x, cs, h1, h2, h3, h4, _⟩ := open_argB ha hv h hl
  ⟨x, cs, h1, h2, h3, h4⟩
end
end Go.Lf
/- The plain law of IrSplits: operations taken apart and put together. -/
open Go Go.Lf
namespace Go.Fn
abbrev OpT := Int × (Int × (List UInt8 × (List Int × Unit)))
theorem loop_fn {σ κ : Type} {B : Int × σ → Option ((Int × σ) ⊕ κ)} (f : Nat → σ) (n : Nat) (k : κ) (h1 : ∀ i, i < n → B ((i : Int), f i) = some (.inl (((i + 1 : Nat) : Int), f (i + 1)))) (h2 : B ((n : Int), f n) = some (.inr k)) :
    ∀ m i, i + m = n → loopC B ((i : Int), f i) = some k
  | 0, i, h => by
    have : i = n := by omega
    subst this
    rw [loopC_step, h2]; rfl
  | m + 1, i, h => by
    rw [loopC_step, h1 i (by omega)]
    exact loop_fn f n k h1 h2 m (i + 1) (by omega)
theorem loop_fn0 {κ : Type} {B : Int → Option (Int ⊕ κ)} (n : Nat) (k : κ) (h1 : ∀ i : Nat, i < n → B (i : Int) = some (.inl ((i + 1 : Nat) : Int))) (h2 : B (n : Int) = some (.inr k)) :
    ∀ m i : Nat, i + m = n → loopC B (i : Int) = some k
  | 0, i, h => by
    have : i = n := by omega
    subst this
    rw [loopC_step, h2]; rfl
  | m + 1, i, h => by
    rw [loopC_step, h1 i (by omega)]
    exact loop_fn0 n k h1 h2 m (i + 1) (by omega)
theorem lt_dec {i n : Nat} (h : i < n) : decide ((i : Int) < (n : Int)) = true := decide_eq_true (by omega)
theorem nlt_dec {n : Nat} : decide ((n : Int) < (n : Int)) = false := decide_eq_false (by omega)
theorem chk_nat {n i : Nat} (h : i < n) : chk n (i : Int) = some i := by
  unfold chk
  rw [if_pos (by omega)]; rfl
theorem take_succ' {α : Type} (l : List α) (i : Nat) (h : i < l.length) : l.take (i + 1) = l.take i ++ [l[i]] := by
  rw [List.take_add_one, List.getElem?_eq_getElem h]; rfl

def clr (o : OpT) : OpT := bif decide ((o.1 : Int) = 1) then (o.1, o.2.1, [], o.2.2.2) else o
def lens : List OpT → List Int
  | [] => []
  | o :: r => bif decide ((o.1 : Int) = 1) then (o.2.2.1.length : Int) :: lens r else lens r
def txt : List OpT → List UInt8
  | [] => []
  | o :: r => bif decide ((o.1 : Int) = 1) then o.2.2.1 ++ txt r else txt r
theorem lens_app : ∀ l m : List OpT, lens (l ++ m) = lens l ++ lens m
  | [], _ => rfl
  | o :: r, m => by
    show (bif decide ((o.1 : Int) = 1) then (o.2.2.1.length : Int) :: lens (r ++ m) else lens (r ++ m)) = (bif decide ((o.1 : Int) = 1) then (o.2.2.1.length : Int) :: lens r else lens r) ++ lens m
    rw [lens_app r m]
    cases decide ((o.1 : Int) = 1) <;> rfl
theorem txt_app : ∀ l m : List OpT, txt (l ++ m) = txt l ++ txt m
  | [], _ => rfl
  | o :: r, m => by
    show (bif decide ((o.1 : Int) = 1) then o.2.2.1 ++ txt (r ++ m) else txt (r ++ m)) = (bif decide ((o.1 : Int) = 1) then o.2.2.1 ++ txt r else txt r) ++ txt m
    rw [txt_app r m]
    cases decide ((o.1 : Int) = 1)
    · rfl
    · exact (List.append_assoc _ _ _).symm
theorem lens_le : ∀ l : List OpT, (lens l).length ≤ l.length
  | [] => Nat.le_refl _
  | o :: r => by
    have ih := lens_le r
    show (bif decide ((o.1 : Int) = 1) then (o.2.2.1.length : Int) :: lens r else lens r).length ≤ r.length + 1
    cases decide ((o.1 : Int) = 1)
    · exact Nat.le_succ_of_le ih
    · exact Nat.succ_le_succ ih

/-! ### new memory -/
theorem twin_loop {l : List OpT} (h1 : l.length ≤ 1048576) (h2 : ∀ o ∈ l, o.2.2.2.1.length ≤ 1048576) :
    (loopC (σ := Int × List OpT) (κ := List OpT) (fun z1 =>
     bif (decide (z1.1 < (((List.length l) : Nat) : Int))) then ((idx l z1.1)).bind fun r2 =>
     ((app (8 : Nat) ([] : List Int) r2.2.2.2.1)).bind fun r3 =>
     ((app (56 : Nat) z1.2 ((r2.1, (r2.2.1, (r2.2.2.1, (r3, r2.2.2.2.2)))) :: ([] : List OpT)))).bind fun r4 =>
     some (.inl ((IntKind.wrap .i64 (z1.1 + (1 : Int))), r4))
     else some (.inr z1.2)) ((0 : Int), ([] : List OpT))) = some l := by
  refine loop_fn (fun i => l.take i) l.length l ?_ ?_ l.length 0 (by omega)
  · intro i hi
    have hm : l[i] ∈ l := List.getElem_mem hi
    have h3 := h2 _ hm
    simp only [lt_dec hi, cond_true, idx_nat, List.getElem?_eq_getElem hi, Option.bind_some]
    rw [app_of (by simp only [List.length_nil, Nat.zero_add]; omega), Option.bind_some, List.nil_append, app_of (by simp only [List.length_take, List.length_cons, List.length_nil]; omega), Option.bind_some, wrapS (by omega), take_succ' l i hi]
  · simp only [nlt_dec, cond_false, List.take_length]
theorem twin_of {l : List OpT} (h1 : l.length ≤ 1048576) (h2 : ∀ o ∈ l, o.2.2.2.1.length ≤ 1048576) : ir_twin l = some l := by
  unfold ir_twin
  rw [twin_loop h1 h2]; rfl
theorem Twin_of {l : List OpT} (h1 : l.length ≤ 1048576) (h2 : ∀ o ∈ l, o.2.2.2.1.length ≤ 1048576) : foliolaw11_Twin l = some l := by
  unfold foliolaw11_Twin
  rw [twin_loop h1 h2]; rfl

/-! ### taken apart -/
theorem set_mid {α : Type} (A : List α) (x y : α) (R : List α) (i : Nat) (h : A.length = i) : (A ++ x :: R).set i y = A ++ y :: R := by
  subst h
  simp
theorem get_mid {α : Type} (A : List α) (x : α) (R : List α) (i : Nat) (h : A.length = i) : (A ++ x :: R)[i]? = some x := by
  subst h
  simp
def spl (l : List OpT) (i : Nat) : List OpT × List Int := ((l.take i).map clr ++ l.drop i, lens (l.take i))
theorem split_of {l : List OpT} (h1 : l.length ≤ 1048576) (h2 : ∀ o ∈ l, o.2.2.2.1.length ≤ 1048576) : ir_Split l = some (l.map clr, lens l) := by
  unfold ir_Split
  rw [twin_of h1 h2, Option.bind_some]
  have key := loop_fn (B := (fun z2 : Int × (List OpT × List Int) =>
     bif (decide (z2.1 < (((List.length l) : Nat) : Int))) then (((chk (List.length z2.2.1) z2.1)).bind fun r3 =>
       ((nth z2.2.1 r3)).bind fun r4 =>
       bif (decide ((r4.1 : Int) = (1 : Int))) then ((chk (List.length z2.2.1) z2.1)).bind fun r5 =>
       ((nth z2.2.1 r5)).bind fun r6 =>
       ((app (8 : Nat) z2.2.2 ((((List.length r6.2.2.1) : Nat) : Int) :: ([] : List (Int))))).bind fun r7 =>
       ((chk (List.length z2.2.1) z2.1)).bind fun r8 =>
       ((nth z2.2.1 r8)).bind fun r9 =>
       some ((List.set z2.2.1 r8 (r9.1, (r9.2.1, (([] : List (UInt8)), r9.2.2.2)))), r7)
       else some (z2.2.1, z2.2.2)).bind fun r10 =>
     some (.inl ((IntKind.wrap .i64 (z2.1 + (1 : Int))), (r10.1, r10.2)))
     else some (.inr (z2.2.2, z2.2.1)))) (spl l) l.length (lens l, l.map clr) ?_ ?_ l.length 0 (by omega)
  · rw [show spl l 0 = (l, []) from rfl] at key
    rw [show (0 : Int) = ((0 : Nat) : Int) from rfl]
    rw [key]; rfl
  · intro i hi
    have hsp : spl l i = ((l.take i).map clr ++ l[i] :: l.drop (i + 1), lens (l.take i)) := by rw [spl, List.drop_eq_getElem_cons hi]
    have hA : ((l.take i).map clr).length = i := by simp; omega
    have hlen : ((l.take i).map clr ++ l[i] :: l.drop (i + 1)).length = l.length := by simp; omega
    have hL : (lens (l.take i)).length ≤ 1048576 := by
      have := lens_le (l.take i)
      have h4 : (l.take i).length ≤ l.length := by rw [List.length_take]; omega
      omega
    have hs : spl l (i + 1) = ((l.take i).map clr ++ clr l[i] :: l.drop (i + 1), lens (l.take i) ++ lens [l[i]]) := by
      rw [spl, take_succ' l i hi, List.map_append, lens_app, List.append_assoc]; rfl
    rw [hs, hsp]
    simp only [lt_dec hi, cond_true, hlen, chk_nat hi, Option.bind_some, nth, get_mid _ _ _ i hA, set_mid _ _ _ _ i hA, wrapS (show i < 9223372036854775807 by omega)]
    cases hk : decide ((l[i].1 : Int) = 1) with
    | true =>
      simp only [cond_true]
      rw [app_of (by simp only [List.length_cons, List.length_nil]; omega)]
      simp only [Option.bind_some, clr, lens, hk, cond_true]
    | false => simp only [cond_false, Option.bind_some, clr, lens, hk, List.append_nil]
  · simp only [nlt_dec, cond_false, spl, List.take_length, List.drop_length, List.append_nil]

/-! ### put together -/
theorem txt_len : ∀ l : List OpT, ((txt l).length : Int) = (lens l).sum
  | [] => rfl
  | o :: r => by
    have ih := txt_len r
    show ((bif decide ((o.1 : Int) = 1) then o.2.2.1 ++ txt r else txt r).length : Int) = (bif decide ((o.1 : Int) = 1) then (o.2.2.1.length : Int) :: lens r else lens r).sum
    cases decide ((o.1 : Int) = 1)
    · exact ih
    · simp only [cond_true, List.length_append, List.sum_cons]; omega
theorem lens_clr : ∀ l : List OpT, (l.map clr).map (·.1) = l.map (·.1)
  | [] => rfl
  | o :: r => by
    have ih := lens_clr r
    have : (clr o).1 = o.1 := by unfold clr; cases decide ((o.1 : Int) = 1) <;> rfl
    simp only [List.map_cons, this, ih]
theorem clr_1 (o : OpT) : (clr o).1 = o.1 := by unfold clr; cases decide ((o.1 : Int) = 1) <;> rfl
theorem clr_w (o : OpT) : (clr o).2.2.2.1 = o.2.2.2.1 := by unfold clr; cases decide ((o.1 : Int) = 1) <;> rfl
/-- each is 1 or more -/
theorem lens_pos : ∀ l : List OpT, (∀ o ∈ l, (o.1 : Int) = 1 → o.2.2.1 ≠ []) → ∀ n ∈ lens l, (1 : Int) ≤ n
  | [], _ => fun n h => by cases h
  | o :: r, hk => by
    have ih := lens_pos r fun p hp => hk p (List.mem_cons_of_mem _ hp)
    show ∀ n ∈ (bif decide ((o.1 : Int) = 1) then (o.2.2.1.length : Int) :: lens r else lens r), (1 : Int) ≤ n
    cases hd : decide ((o.1 : Int) = 1) with
    | false => exact ih
    | true =>
      intro n hn
      rcases List.mem_cons.1 hn with rfl | hn
      · have h1 := hk o List.mem_cons_self (of_decide_eq_true hd)
        have : 0 < o.2.2.1.length := List.length_pos_iff.2 h1
        omega
      · exact ih n hn
theorem sum_nonneg : ∀ l : List Int, (∀ n ∈ l, (1 : Int) ≤ n) → 0 ≤ l.sum
  | [], _ => Int.le_refl _
  | n :: r, h => by
    have := sum_nonneg r fun m hm => h m (List.mem_cons_of_mem _ hm)
    have := h n List.mem_cons_self
    simp only [List.sum_cons]; omega
theorem idx0 {α : Type} (x : α) (r : List α) : idx (x :: r) (0 : Int) = some x := rfl
theorem sub_pre (A R : List UInt8) : sub (A ++ R) (0 : Int) (A.length : Int) = some A := by
  rw [show (0 : Int) = ((0 : Nat) : Int) from rfl, sub_nat (Nat.zero_le _) (by simp)]
  simp
theorem sub_suf (A R : List UInt8) : sub (A ++ R) (A.length : Int) (((A ++ R).length : Nat) : Int) = some R := by
  rw [sub_nat (by simp) (Nat.le_refl _)]
  simp
theorem sub_tl (x : Int) (r : List Int) : sub (x :: r) (1 : Int) (((x :: r).length : Nat) : Int) = some r := by
  rw [show (1 : Int) = ((1 : Nat) : Int) from rfl, sub_nat (by simp) (Nat.le_refl _)]
  simp
def jst (l : List OpT) (i : Nat) : List Int × (List UInt8 × List OpT) := (lens (l.drop i), (txt (l.drop i), l.take i ++ (l.drop i).map clr))
def cnt (l : List OpT) (i : Nat) : Int := ((lens (l.take i)).length : Int)
def lft (l : List OpT) (i : Nat) : Int := ((lens l).drop i).sum
theorem join_of {l : List OpT} (h1 : l.length ≤ 1048576) (h2 : ∀ o ∈ l, o.2.2.2.1.length ≤ 1048576) (h3 : (txt l).length ≤ 1048576) (hk : ∀ o ∈ l, (o.1 : Int) = 1 → o.2.2.1 ≠ []) : ir_Join (l.map clr) (lens l) (txt l) = some (l, 0) := by
  unfold ir_Join
  have hml : (l.map clr).length = l.length := List.length_map _
  have c1 := loop_fn (B := (fun z1 : Int × Int =>
     bif (decide (z1.1 < (((List.length (l.map clr)) : Nat) : Int))) then (((idx (l.map clr) z1.1)).bind fun r2 =>
       bif (decide ((r2.1 : Int) = (1 : Int))) then some (IntKind.wrap .i64 (z1.2 + (1 : Int)))
       else some z1.2).bind fun r3 =>
     some (.inl ((IntKind.wrap .i64 (z1.1 + (1 : Int))), r3))
     else some (.inr z1.2))) (cnt l) l.length ((lens l).length : Int) ?_ ?_ l.length 0 (by omega)
  rotate_left
  · intro i hi
    have hL : (lens (l.take i)).length ≤ 1048576 := by
      have := lens_le (l.take i)
      have h4 : (l.take i).length ≤ l.length := by rw [List.length_take]; omega
      omega
    have hg : (l.map clr)[i]? = some (clr l[i]) := by rw [List.getElem?_map, List.getElem?_eq_getElem hi]; rfl
    have hs : cnt l (i + 1) = ((lens (l.take i) ++ lens [l[i]]).length : Int) := by rw [cnt, take_succ' l i hi, lens_app]
    rw [hs]
    simp only [hml, lt_dec hi, cond_true, idx_nat, hg, Option.bind_some, clr_1, wrapS (show i < 9223372036854775807 by omega)]
    cases hd : decide ((l[i].1 : Int) = 1) with
    | true => simp only [cond_true, Option.bind_some, cnt, lens, hd, wrapS (show (lens (l.take i)).length < 9223372036854775807 by omega), List.length_append, List.length_cons, List.length_nil]
    | false => simp only [cond_false, Option.bind_some, cnt, lens, hd, List.append_nil]
  · simp only [hml, nlt_dec, cond_false, cnt, List.take_length]
  rw [show cnt l 0 = 0 from rfl, show ((0 : Nat) : Int) = 0 from rfl] at c1
  rw [c1]
  simp only [Option.bind_some, ne_eq, not_true_eq_false, decide_false, cond_false]
  have hpos := lens_pos l hk
  have hll := lens_le l
  have c2 := loop_fn0 (κ := Unit ⊕ (List OpT × Int)) (B := (fun z5 : Int =>
     bif (decide (z5 < (((List.length (lens l)) : Nat) : Int))) then ((idx (lens l) z5)).bind fun r6 =>
     bif (decide (r6 < (1 : Int))) then some (.inr (.inr (([] : List OpT), (1 : Int))))
     else some (.inl (IntKind.wrap .i64 (z5 + (1 : Int))))
     else some (.inr (.inl ())))) (lens l).length (.inl ()) ?_ ?_ (lens l).length 0 (by omega)
  rotate_left
  · intro i hi
    have hp := hpos _ (List.getElem_mem hi)
    simp only [lt_dec hi, cond_true, idx_nat, List.getElem?_eq_getElem hi, Option.bind_some, decide_eq_false (show ¬ (lens l)[i] < 1 by omega), cond_false, wrapS (show i < 9223372036854775807 by omega)]
  · simp only [nlt_dec, cond_false]
  rw [show ((0 : Nat) : Int) = 0 from rfl] at c2
  rw [c2]
  simp only [Option.bind_some, onSum]
  have htl := txt_len l
  have c3 := loop_fn (κ := Int ⊕ (List OpT × Int)) (B := (fun z9 : Int × Int =>
     bif (decide (z9.1 < (((List.length (lens l)) : Nat) : Int))) then ((idx (lens l) z9.1)).bind fun r10 =>
     bif (decide (z9.2 < r10)) then some (.inr (.inr (([] : List OpT), (2 : Int))))
     else some (.inl ((IntKind.wrap .i64 (z9.1 + (1 : Int))), (IntKind.wrap .i64 (z9.2 - r10))))
     else some (.inr (.inl z9.2)))) (lft l) (lens l).length (.inl 0) ?_ ?_ (lens l).length 0 (by omega)
  rotate_left
  · intro i hi
    have hdr : (lens l).drop i = (lens l)[i] :: (lens l).drop (i + 1) := List.drop_eq_getElem_cons hi
    have h5 := sum_nonneg ((lens l).drop (i + 1)) fun n hn => hpos n (List.mem_of_mem_drop hn)
    have h6 := hpos _ (List.getElem_mem hi)
    have h7 : (lens l).sum = ((lens l).take i).sum + ((lens l).drop i).sum := by rw [← List.sum_append, List.take_append_drop]
    have h8 := sum_nonneg ((lens l).take i) fun n hn => hpos n (List.mem_of_mem_take hn)
    have h9 : ((lens l).drop i).sum = (lens l)[i] + ((lens l).drop (i + 1)).sum := by rw [hdr, List.sum_cons]
    simp only [lt_dec hi, cond_true, idx_nat, List.getElem?_eq_getElem hi, Option.bind_some, lft, h9, decide_eq_false (show ¬ (lens l)[i] + ((lens l).drop (i + 1)).sum < (lens l)[i] by omega), cond_false, wrapS (show i < 9223372036854775807 by omega)]
    rw [wrap64 (by omega) (by omega), show (lens l)[i] + ((lens l).drop (i + 1)).sum - (lens l)[i] = ((lens l).drop (i + 1)).sum by omega]
  · simp only [nlt_dec, cond_false, lft, List.drop_length, List.sum_nil]
  rw [show lft l 0 = (lens l).sum from rfl, ← htl, show ((0 : Nat) : Int) = 0 from rfl] at c3
  rw [c3]
  simp only [Option.bind_some, onSum, Int.lt_irrefl, decide_false, cond_false]
  have hw : ∀ o ∈ l.map clr, o.2.2.2.1.length ≤ 1048576 := fun o ho => by
    obtain ⟨p, hp, rfl⟩ := List.mem_map.1 ho
    rw [clr_w]; exact h2 p hp
  rw [twin_of (by rw [hml]; exact h1) hw, Option.bind_some]
  have c4 := loop_fn (κ := List OpT) (B := (fun z14 : Int × (List Int × (List UInt8 × List OpT)) =>
     bif (decide (z14.1 < (((List.length (l.map clr)) : Nat) : Int))) then (((chk (List.length z14.2.2.2) z14.1)).bind fun r15 =>
       ((nth z14.2.2.2 r15)).bind fun r16 =>
       bif (decide ((r16.1 : Int) = (1 : Int))) then ((idx z14.2.1 (0 : Int))).bind fun r17 =>
       ((sub z14.2.2.1 (0 : Int) r17)).bind fun r18 =>
       ((idx z14.2.1 (0 : Int))).bind fun r19 =>
       ((sub z14.2.2.1 r19 (((List.length z14.2.2.1) : Nat) : Int))).bind fun r20 =>
       ((sub z14.2.1 (1 : Int) (((List.length z14.2.1) : Nat) : Int))).bind fun r21 =>
       ((chk (List.length z14.2.2.2) z14.1)).bind fun r22 =>
       ((nth z14.2.2.2 r22)).bind fun r23 =>
       some (r21, (r20, (List.set z14.2.2.2 r22 (r23.1, (r23.2.1, (r18, r23.2.2.2))))))
       else some (z14.2.1, (z14.2.2.1, z14.2.2.2))).bind fun r24 =>
     some (.inl ((IntKind.wrap .i64 (z14.1 + (1 : Int))), (r24.1, (r24.2.1, r24.2.2))))
     else some (.inr z14.2.2.2))) (jst l) l.length l ?_ ?_ l.length 0 (by omega)
  rotate_left
  · intro i hi
    have hdr : l.drop i = l[i] :: l.drop (i + 1) := List.drop_eq_getElem_cons hi
    have hA : (l.take i).length = i := by simp; omega
    have hlen : (l.take i ++ clr l[i] :: (l.drop (i + 1)).map clr).length = l.length := by simp; omega
    have hj : jst l i = (lens (l[i] :: l.drop (i + 1)), (txt (l[i] :: l.drop (i + 1)), l.take i ++ clr l[i] :: (l.drop (i + 1)).map clr)) := by rw [jst, hdr]; rfl
    have hj1 : jst l (i + 1) = (lens (l.drop (i + 1)), (txt (l.drop (i + 1)), l.take i ++ l[i] :: (l.drop (i + 1)).map clr)) := by rw [jst, take_succ' l i hi, List.append_assoc]; rfl
    rw [hj1, hj]
    simp only [hml, lt_dec hi, cond_true, hlen, chk_nat hi, Option.bind_some, nth, get_mid _ _ _ i hA, set_mid _ _ _ _ i hA, wrapS (show i < 9223372036854775807 by omega), clr_1]
    cases hd : decide ((l[i].1 : Int) = 1) with
    | true =>
      have hc : clr l[i] = (l[i].1, l[i].2.1, [], l[i].2.2.2) := by unfold clr; rw [hd]; rfl
      simp only [cond_true, lens, txt, hd, idx0, Option.bind_some, sub_pre, sub_suf, sub_tl, hc]
    | false =>
      have hc : clr l[i] = l[i] := by unfold clr; rw [hd]; rfl
      simp only [cond_false, lens, txt, hd, Option.bind_some, hc]
  · simp only [hml, nlt_dec, cond_false, jst, List.take_length, List.drop_length, List.map_nil, List.append_nil]
  rw [show jst l 0 = (lens l, (txt l, l.map clr)) from rfl, show ((0 : Nat) : Int) = 0 from rfl] at c4
  rw [c4]
  rfl

/-! ### the text -/
theorem bytesI_app (a b : List UInt8) : bytesI (a ++ b) = bytesI a ++ bytesI b := List.map_append
theorem bytesUI (a : List UInt8) : bytesU (bytesI a) = a := by
  unfold bytesU bytesI
  rw [List.map_map]
  have : ∀ x : UInt8, (((fun x : Int => UInt8.ofNat x.toNat) ∘ fun b : UInt8 => (b.toNat : Int)) x) = x := fun x => by simp
  induction a with
  | nil => rfl
  | cons x r ih => rw [List.map_cons, ih, this]
def tst (l : List OpT) (i : Nat) : List Int := bytesI (txt (l.take i))
theorem text_of {l : List OpT} (h1 : l.length ≤ 1048576) (h3 : (txt l).length ≤ 1048576) : ir_Text l = some (txt l) := by
  unfold ir_Text
  have c1 := loop_fn (κ := List Int) (B := (fun z1 : Int × List Int =>
     bif (decide (z1.1 < (((List.length l) : Nat) : Int))) then (((idx l z1.1)).bind fun r2 =>
       bif (decide ((r2.1 : Int) = (1 : Int))) then ((app (1 : Nat) z1.2 (bytesI r2.2.2.1))).bind fun r3 =>
       some r3
       else some z1.2).bind fun r4 =>
     some (.inl ((IntKind.wrap .i64 (z1.1 + (1 : Int))), r4))
     else some (.inr z1.2))) (tst l) l.length (bytesI (txt l)) ?_ ?_ l.length 0 (by omega)
  rotate_left
  · intro i hi
    have ht : txt l = txt (l.take i) ++ (txt [l[i]] ++ txt (l.drop (i + 1))) := by
      rw [← txt_app, ← txt_app]
      congr 1
      show l = l.take i ++ (l[i] :: l.drop (i + 1))
      rw [← List.drop_eq_getElem_cons hi, List.take_append_drop]
    have h4 : (txt (l.take i)).length + (txt [l[i]]).length ≤ 1048576 := by
      have := congrArg List.length ht
      simp only [List.length_append] at this
      omega
    have hs : tst l (i + 1) = bytesI (txt (l.take i)) ++ bytesI (txt [l[i]]) := by rw [tst, take_succ' l i hi, txt_app, bytesI_app]
    rw [hs]
    simp only [lt_dec hi, cond_true, idx_nat, List.getElem?_eq_getElem hi, Option.bind_some, wrapS (show i < 9223372036854775807 by omega)]
    cases hd : decide ((l[i].1 : Int) = 1) with
    | true =>
      simp only [txt, hd, cond_true, List.append_nil] at h4 ⊢
      rw [app_of (by simp only [tst, bytesI, List.length_map]; omega)]
      rfl
    | false => simp only [txt, hd, cond_false, Option.bind_some, bytesI, List.map_nil, List.append_nil, tst]
  · simp only [nlt_dec, cond_false, tst, List.take_length]
  rw [show tst l 0 = [] from rfl, show ((0 : Nat) : Int) = 0 from rfl] at c1
  rw [c1, Option.bind_some, bytesUI]

/-! ### alike -/
theorem same_self {l : List OpT} (h1 : l.length ≤ 1048576) (h2 : ∀ o ∈ l, o.2.2.2.1.length ≤ 1048576) : folioref11_Same l l = some true := by
  unfold folioref11_Same
  simp only [ne_eq, not_true_eq_false, decide_false, cond_false]
  have key := loop_fn0 (κ := Unit ⊕ Bool) (B := (fun z1 : Int =>
     bif (decide (z1 < (((List.length l) : Nat) : Int))) then ((idx l z1)).bind fun r2 =>
     ((idx l z1)).bind fun r3 =>
     (bif (!(decide ((r2.1 : Int) ≠ r3.1))) then bif (!(decide ((r2.2.1 : Int) ≠ r3.2.1))) then bif (!(decide ((r2.2.2.1 : List (UInt8)) ≠ r3.2.2.1))) then some ((decide (((((List.length r2.2.2.2.1) : Nat) : Int) : Int) ≠ (((List.length r3.2.2.2.1) : Nat) : Int))), (r3, r2))
       else some (true, (r3, r2))
       else some (true, (r3, r2))
       else some (true, (r3, r2))).bind fun r4 =>
     bif r4.1 then some (.inr (.inr false))
     else (loopC (σ := Int × (OpT × OpT)) (κ := Unit ⊕ Bool) (fun z5 =>
         bif (decide (z5.1 < (((List.length r4.2.2.2.2.2.1) : Nat) : Int))) then ((idx z5.2.2.2.2.2.1 z5.1)).bind fun r6 =>
         ((idx z5.2.1.2.2.2.1 z5.1)).bind fun r7 =>
         bif (decide ((r6 : Int) ≠ r7)) then some (.inr (.inr false))
         else some (.inl ((IntKind.wrap .i64 (z5.1 + (1 : Int))), (z5.2.1, z5.2.2)))
         else some (.inr (.inl ()))) ((0 : Int), (r4.2.1, r4.2.2)) : Option (Unit ⊕ Bool)).bind fun r8 =>
     onSum r8 (fun a9 =>
     some (.inl (IntKind.wrap .i64 (z1 + (1 : Int))))) (fun b10 =>
     some (.inr (.inr b10)))
     else some (.inr (.inl ())))) l.length (.inl ()) ?_ ?_ l.length 0 (by omega)
  rotate_left
  · intro i hi
    have h3 := h2 _ (List.getElem_mem hi)
    simp only [lt_dec hi, cond_true, idx_nat, List.getElem?_eq_getElem hi, Option.bind_some, ne_eq, not_true_eq_false, decide_false, Bool.not_false, cond_false]
    have inner := loop_fn (κ := Unit ⊕ Bool) (B := (fun z5 : Int × (OpT × OpT) =>
         bif (decide (z5.1 < (((List.length l[i].2.2.2.1) : Nat) : Int))) then ((idx z5.2.2.2.2.2.1 z5.1)).bind fun r6 =>
         ((idx z5.2.1.2.2.2.1 z5.1)).bind fun r7 =>
         bif (decide (¬ (r6 : Int) = r7)) then some (.inr (.inr false))
         else some (.inl ((IntKind.wrap .i64 (z5.1 + (1 : Int))), (z5.2.1, z5.2.2)))
         else some (.inr (.inl ())))) (fun _ => (l[i], l[i])) l[i].2.2.2.1.length (.inl ()) ?_ ?_ l[i].2.2.2.1.length 0 (by omega)
    rotate_left
    · intro k hk
      simp only [lt_dec hk, cond_true, idx_nat, List.getElem?_eq_getElem hk, Option.bind_some, not_true_eq_false, decide_false, cond_false, wrapS (show k < 9223372036854775807 by omega)]
    · simp only [nlt_dec, cond_false]
    rw [show ((0 : Nat) : Int) = 0 from rfl] at inner
    rw [inner]
    simp only [Option.bind_some, onSum, wrapS (show i < 9223372036854775807 by omega)]
  · simp only [nlt_dec, cond_false]
  rw [show ((0 : Nat) : Int) = 0 from rfl] at key
  simp only [ne_eq] at key
  rw [key]
  rfl

/-! ### the law -/
def badO (o : OpT) : Bool := (bif (decide ((o.1 : Int) = (1 : Int))) then bif (!(decide ((o.2.2.1 : List (UInt8)) = ([] : List (UInt8))))) then bif (decide ((o.1 : Int) ≠ (1 : Int))) then (decide ((o.2.2.1 : List (UInt8)) ≠ ([] : List (UInt8)))) else false else true
       else bif (decide ((o.1 : Int) ≠ (1 : Int))) then (decide ((o.2.2.1 : List (UInt8)) ≠ ([] : List (UInt8)))) else false)
theorem bad_step (o : OpT) : (bif (decide ((o.1 : Int) = (1 : Int))) then bif (!(decide ((o.2.2.1 : List (UInt8)) = ([] : List (UInt8))))) then bif (decide ((o.1 : Int) ≠ (1 : Int))) then some (decide ((o.2.2.1 : List (UInt8)) ≠ ([] : List (UInt8))))
       else some false
       else some true
       else bif (decide ((o.1 : Int) ≠ (1 : Int))) then some (decide ((o.2.2.1 : List (UInt8)) ≠ ([] : List (UInt8))))
       else some false) = some (badO o) := by
  unfold badO
  cases decide ((o.1 : Int) = (1 : Int)) <;> cases (!(decide ((o.2.2.1 : List (UInt8)) = ([] : List (UInt8))))) <;> cases decide ((o.1 : Int) ≠ (1 : Int)) <;> rfl
theorem bad_text {o : OpT} (h : badO o = false) (h1 : (o.1 : Int) = 1) : o.2.2.1 ≠ [] := fun e => by
  unfold badO at h
  rw [decide_eq_true h1, decide_eq_true e] at h
  cases h
theorem bad_loop (l : List OpT) (hl : l.length ≤ 1048576) : ∀ m i : Nat, i + m = l.length → loopC (σ := Int) (κ := Unit ⊕ Bool) (fun z2 =>
     bif (decide (z2 < (((List.length l) : Nat) : Int))) then ((idx l z2)).bind fun r3 =>
     (bif (decide ((r3.1 : Int) = (1 : Int))) then bif (!(decide ((r3.2.2.1 : List (UInt8)) = ([] : List (UInt8))))) then bif (decide ((r3.1 : Int) ≠ (1 : Int))) then some (decide ((r3.2.2.1 : List (UInt8)) ≠ ([] : List (UInt8))))
       else some false
       else some true
       else bif (decide ((r3.1 : Int) ≠ (1 : Int))) then some (decide ((r3.2.2.1 : List (UInt8)) ≠ ([] : List (UInt8))))
       else some false).bind fun r4 =>
     bif r4 then some (.inr (.inr true))
     else some (.inl (IntKind.wrap .i64 (z2 + (1 : Int))))
     else some (.inr (.inl ()))) (i : Int) = some (bif (l.drop i).any badO then .inr true else .inl ())
  | 0, i, h => by
    have : i = l.length := by omega
    subst this
    rw [loopC_step]
    simp only [nlt_dec, cond_false, List.drop_length]
    rfl
  | m + 1, i, h => by
    have hi : i < l.length := by omega
    rw [loopC_step]
    simp only [lt_dec hi, cond_true, idx_nat, List.getElem?_eq_getElem hi, Option.bind_some, bad_step, wrapS (show i < 9223372036854775807 by omega)]
    rw [List.drop_eq_getElem_cons hi, List.any_cons]
    cases hb : badO l[i] with
    | true => rfl
    | false =>
      simp only [cond_false, Bool.false_or, Option.bind_some, onSum]
      have ih := bad_loop l hl m (i + 1) (by omega)
      simp only [bad_step, Option.bind_some] at ih
      exact ih
theorem splits_law (l : List OpT) (h1 : l.length ≤ 1048576) (h2 : ∀ o ∈ l, o.2.2.2.1.length ≤ 1048576) (h3 : (txt l).length ≤ 1048576) : foliolaw11_IrSplits l = some true := by
  unfold foliolaw11_IrSplits
  rw [awake, Option.bind_some, Bool.not_true, cond_false, show (0 : Int) = ((0 : Nat) : Int) from rfl, bad_loop l h1 l.length 0 (by omega), Option.bind_some, List.drop_zero]
  cases hb : l.any badO with
  | true => rfl
  | false =>
    have hk : ∀ o ∈ l, (o.1 : Int) = 1 → o.2.2.1 ≠ [] := fun o ho he => bad_text (by
      have := List.any_eq_false.1 hb o ho
      simpa using this) he
    simp only [cond_false, onSum]
    rw [Twin_of h1 h2, Option.bind_some, split_of h1 h2, Option.bind_some, Option.bind_some, text_of h1 h3, Option.bind_some]
    rw [join_of h1 h2 h3 hk, Option.bind_some, same_self h1 h2]
    rfl
abbrev OpL : Ty := .sl (.st (.pr (.int .i64) (.pr (.int .i64) (.pr .str (.pr (.sl (.int .i64)) .unit)))))
theorem szo (o : OpT) : o.2.2.1.length + o.2.2.2.1.length ≤ Sz (.st (.pr (.int .i64) (.pr (.int .i64) (.pr .str (.pr (.sl (.int .i64)) .unit))))) o := by
  show _ ≤ 0 + (0 + (o.2.2.1.length + ((((o.2.2.2.1 : List Int).map (Sz (.int .i64))).sum + o.2.2.2.1.length) + 0)))
  omega
theorem sz_txt : ∀ l : List OpT, (txt l).length ≤ (l.map (Sz (.st (.pr (.int .i64) (.pr (.int .i64) (.pr .str (.pr (.sl (.int .i64)) .unit))))))).sum
  | [] => Nat.le_refl _
  | o :: r => by
    have ih := sz_txt r
    have h := szo o
    rw [List.map_cons, List.sum_cons]
    show (bif decide ((o.1 : Int) = 1) then o.2.2.1 ++ txt r else txt r).length ≤ _
    cases decide ((o.1 : Int) = 1)
    · show (txt r).length ≤ _
      omega
    · show (o.2.2.1 ++ txt r).length ≤ _
      rw [List.length_append]; omega
theorem mem_sum {α : Type} {f : α → Nat} : ∀ {l : List α} {x : α}, x ∈ l → f x ≤ (l.map f).sum
  | [], _, h => by cases h
  | a :: r, x, h => by
    rw [List.map_cons, List.sum_cons]
    rcases List.mem_cons.1 h with rfl | h
    · omega
    · have := mem_sum (f := f) h; omega
theorem splits_sz (l : List OpT) (h : Sz OpL l ≤ 1048576) : foliolaw11_IrSplits l = some true := by
  have h0 : (l.map (Sz (.st (.pr (.int .i64) (.pr (.int .i64) (.pr .str (.pr (.sl (.int .i64)) .unit))))))).sum + l.length ≤ 1048576 := h
  have h1 := sz_txt l
  refine splits_law l (by omega) (fun o ho => ?_) (by omega)
  have h2 := szo o
  have h3 := mem_sum (f := Sz (.st (.pr (.int .i64) (.pr (.int .i64) (.pr .str (.pr (.sl (.int .i64)) .unit)))))) ho
  omega
end Go.Fn
