/-
  Operations that turn more than their slot: new blocks, heads cut, rows that grow.
-/
import Derived.Test.YtkfcinmgebhbhaaDoorQSnd10
namespace Go.Lf
open Go Go.Eng

section
variable {P : Program} {N : Nat} {C : Cx} {G : World → Prop} {c : Ctx} {S : St} {Rt : Type} {k : St → Option Rt} {r : Rt} {a : Act} {w : World}
variable {W : Wit} {e : Env} {eh oh : List Chunk} {dst : Option Tmp} {ty : TypeId} {pos : String} {af : Array Edge} {gd : Option (Nat × Bool)}

theorem zcells_er : ∀ {t : Ty}, zcells t.er = zcells t
  | .int _ => rfl | .bool => rfl | .str => rfl | .unit => rfl | .dead _ _ => rfl | .sl _ => rfl | .rw _ _ => rfl | .mr _ _ => rfl | .ptr _ => rfl | .eb _ _ => rfl
  | .st t => zcells_er (t := t)
  | .pr a b => by show zcells a.er ++ zcells b.er = _; rw [zcells_er (t := a), zcells_er (t := b)]; rfl
theorem zero_er : ∀ {t : Ty} {x : t.den}, zero t = some x → (zero t.er).isSome = true
  | .int _, _ => fun _ => rfl | .bool, _ => fun _ => rfl | .str, _ => fun _ => rfl | .unit, _ => fun _ => rfl | .dead _ _, _ => fun _ => rfl | .sl _, _ => fun _ => rfl | .rw _ _, _ => fun _ => rfl | .mr _ _, _ => fun _ => rfl
  | .ptr _, _ => fun h => by simp [zero] at h
  | .eb _ _, _ => fun _ => rfl
  | .st t, x => fun h => zero_er (t := t) (x := x) (by simpa only [zero] using h)
  | .pr a b, x => fun h => by
    unfold zero at h
    split at h
    · rename_i y z hy hz
      have h1 := zero_er hy
      have h2 := zero_er hz
      show (zero (.pr a.er b.er)).isSome = true
      unfold zero
      obtain ⟨u, hu⟩ := Option.isSome_iff_exists.1 h1
      obtain ⟨v, hv⟩ := Option.isSome_iff_exists.1 h2
      rw [hu, hv]; rfl
    · cases h

/-- a new block with an object -/
theorem alloc_core (hn : c.n = N) {d tid : Nat} {t : Ty} {x : t.den} {S1 : St} (h : newO c d ⟨some tid, t, x⟩ (.ref d [] 0) S1 k = some r) {op : Op} :
    ∃ S', k S' = some r ∧ ∀ W e eh oh cs h0 a w, SRel S1 W e eh oh → Rp W.φ t x cs h0 → Fr a N e → Hb C w (h0 ++ (eh ++ oh)) (Inv G W.φ) →
      (execOp a.eval ⟨some d, op, ty, pos, af, gd⟩).run P w = .ok (.value (.pointer (some ⟨w.heap.size, 0, none⟩))) (w.alloc (.cells cs.toArray tid)) → OpWp P N C G ⟨some d, op, ty, pos, af, gd⟩ S' a w := by
  obtain ⟨S', h1, h2⟩ := newO_ok (C := C) (G := G) hn h
  refine ⟨S', h1, fun W e eh oh cs h0 a w hs hr hf hb hrun => .value hrun ?_⟩
  exact h2 W e eh oh w.heap.size cs h0 _ a _ hs hr hf ⟨by simp [upd], rfl⟩ (hb.alloc (.cells cs.toArray tid))

theorem allocT_ok (hc : CtxOk P G c) (hn : c.n = N) {t : Nat} (h : effE c ⟨dst, .alloc t, ty, pos, af, gd⟩ S k = some r) : ∃ S', k S' = some r ∧ ∀ a w, At N C G S a w → OpWp P N C G ⟨dst, .alloc t, ty, pos, af, gd⟩ S' a w := by
  simp only [effE] at h
  split at h
  case h_2 => cases h
  case h_1 d i hi =>
  have ho := hc.ty _ _ hi
  have core : ∀ (ty' : Ty) (z : ty'.den), ty'.er = i.ty → zero ty' = some z → newO c d ⟨some t, ty', z⟩ (.ref d [] 0) S k = some r → ∃ S', k S' = some r ∧ ∀ a w, At N C G S a w → OpWp P N C G ⟨some d, .alloc t, ty, pos, af, gd⟩ S' a w := by
    intro ty' z he hz h
    obtain ⟨S', h1, h2⟩ := alloc_core (P := P) (C := C) (G := G) (ty := ty) (pos := pos) (af := af) (gd := gd) hn h (op := .alloc t)
    refine ⟨S', h1, fun a w ⟨W, e, eh, oh, hs, hf, hb⟩ => ?_⟩
    obtain ⟨h0, r1, r2⟩ := zero_ok (φ := W.φ) hz
    have hzt := ho.zero (by rw [← he]; exact zero_er hz)
    rw [← he, zcells_er] at hzt
    obtain ⟨inf, v, q1, q2, q3⟩ := hzt
    refine h2 W e eh oh _ h0 a w hs r1 hf ((Sub.app r2 (Sub.refl _)).hb (by simpa using hb)) ?_
    simp [execOp, Instr.alloc, zeroValue, typeInfo, q1, q2, newVar, newRow, q3]
  split at h
  · rename_i ty' hown
    split at h
    case isFalse => cases h
    case isTrue he =>
    split at h
    case h_2 => cases h
    case h_1 z hz => exact core ty' z he hz h
  · split at h
    case h_2 => cases h
    case h_1 z hz => exact core i.ty z ho.frz.symm hz h

theorem boxT_ok (hc : CtxOk P G c) (hn : c.n = N) {d t : Nat} {x : Operand} (h : boxT c d t S x k = some r) : ∃ S', k S' = some r ∧ ∀ a w, At N C G S a w → OpWp P N C G ⟨some d, .box t x, ty, pos, af, gd⟩ S' a w := by
  have ex : ∀ (a : Act) (w : World) (v : Value) (cs : List Value), a.eval x = v → v.cells = cs.toArray → (execOp a.eval ⟨some d, .box t x, ty, pos, af, gd⟩).run P w = .ok (.value (.pointer (some ⟨w.heap.size, 0, none⟩))) (w.alloc (.cells cs.toArray t)) := by
    rintro a w v cs rfl hv
    simp [execOp, Instr.box, newVar, newRow, hv]
  unfold boxT at h
  split at h
  case h_2 => cases h
  case h_1 i hi =>
  have ho := hc.ty _ _ hi
  split at h
  · rename_i ty' y _ hx
    split at h
    case isFalse => cases h
    case isTrue he =>
    obtain ⟨S', h1, h2⟩ := alloc_core (P := P) (C := C) (G := G) (ty := ty) (pos := pos) (af := af) (gd := gd) hn h (op := .box t x)
    refine ⟨S', h1, fun a w ⟨W, e, eh, oh, hs, hf, hb⟩ => ?_⟩
    obtain ⟨v, hh, eh', q1, ⟨cs, g1, rfl, g3⟩, q3, q4⟩ := strip_ok hs hx (by intro e; cases e)
    exact h2 W e eh' oh cs hh a w q3 g3 hf (((Sub.app q4 (Sub.refl oh)).trans (by rw [List.append_assoc]; exact Sub.refl _)).hb hb) (ex a w _ cs (hf.ev q1) (sv_one g1 g3))
  · rename_i ty' hx hown
    split at h
    case isFalse => cases h
    case isTrue he =>
    split at h
    case h_2 => cases h
    case h_1 y hy =>
    obtain ⟨S', h1, h2⟩ := alloc_core (P := P) (C := C) (G := G) (ty := ty) (pos := pos) (af := af) (gd := gd) hn h (op := .box t x)
    refine ⟨S', h1, fun a w ⟨W, e, eh, oh, hs, hf, hb⟩ => ?_⟩
    obtain ⟨h0, r1, r2, _⟩ := nilAt_ok (φ := W.φ) hy
    obtain ⟨v, hh, rr, q1, q2, _⟩ := raw_ok hs.env (x := x) (by rw [hx]; intro e; cases e)
    rw [hx] at q2
    obtain ⟨rfl, _⟩ := q2
    exact h2 W e eh oh _ h0 a w hs r1 hf ((Sub.app r2 (Sub.refl _)).hb (by simpa using hb)) (ex a w _ _ (hf.ev q1) rfl)
  · split at h
    case h_2 => cases h
    case h_1 y hy =>
    obtain ⟨S', h1, h2⟩ := alloc_core (P := P) (C := C) (G := G) (ty := ty) (pos := pos) (af := af) (gd := gd) hn h (op := .box t x)
    refine ⟨S', h1, fun a w ⟨W, e, eh, oh, hs, hf, hb⟩ => ?_⟩
    obtain ⟨cs, v, q1, q2, q3, _⟩ := asTy_raw hs.env (x := x) rfl hy ho.frz
    exact h2 W e eh oh cs [] a w hs q3 hf (by simpa using hb) (ex a w _ _ (hf.ev q1) q2)

/-- a new block is a row -/
theorem new_row {φ : Phi} {p : Bool} {g el size n : Nat} {xs : List Value} {rest : List Chunk} (hb : Hb C w (.obj g (.cells xs.toArray el) :: rest) (Inv G φ)) (hx : xs.length = n * size) (hn : n ≤ maxLen) :
    Hb C w (.row p (.slice (some ⟨g, 0, none⟩) n n) el size n xs :: rest) (Inv G φ) := by
  have hg : w.heap[g]? = some (.cells xs.toArray el (0, 0)) := hb.hp.hold _ List.mem_cons_self
  refine hb.turn (c' := .row p (.slice (some ⟨g, 0, none⟩) n n) el size n xs) (Ext.refl _ _ _) ⟨hx, .inr ⟨g, n, xs.toArray, rfl, Nat.zero_le _, hg, Nat.le_refl _, hn, by simpa using hx, ?_⟩⟩ (fun g' hg' => .inl ⟨hg', Nat.zero_le _⟩)
  show List.take _ xs = xs
  exact List.take_of_length_le (by omega)
/-- elements laid in a row -/
theorem elems_fill {W : Wit} {e : Env} {hs : List Chunk} {t : Ty} (he : EnvR W S.env e hs) (hf : t = t.er) {a : Act} (hfr : Fr a N e) (h0 : 0 < t.size) : ∀ (parts : List (Nat × Operand)) (i : Nat) (l : List t.den) (pre post : List Value), elemsP S t i parts = some l → pre.length = i * t.size → post.length = parts.length * t.size →
    ∃ css, All2 (fun x cs => Rp W.φ t x cs []) l css ∧ l.length = parts.length ∧ Instr.fill (fun j => some (j * t.size, t.size)) (pre ++ post).toArray (parts.map fun p => (p.1, a.eval p.2)) = some (pre ++ css.flatten).toArray
  | [], i, l, pre, post, h, h1, h2 => by
    have hl : ([] : List t.den) = l := by simpa [elemsP] using h
    subst hl
    have : post = [] := List.eq_nil_of_length_eq_zero (by simpa using h2)
    subst this
    exact ⟨[], .nil, rfl, rfl⟩
  | (j, x) :: q, i, l, pre, post, h, h1, h2 => by
    unfold elemsP at h
    cases hb : Nat.beq i j with
    | false => rw [hb] at h; cases h
    | true =>
      rw [hb] at h
      simp only [cond_true] at h
      have hij := Nat.eq_of_beq_eq_true hb
      subst hij
      split at h
      case h_2 => cases h
      case h_1 y l' hy hl =>
      simp only [Option.some.injEq] at h
      subst h
      obtain ⟨vs, g1, g2⟩ := asTy_get he hy hf
      have htop := asTy_top he hy hf
      have hvl : vs.length = t.size := g2.len
      have hpl : post.length = q.length * t.size + t.size := by rw [h2, List.length_cons, Nat.succ_mul]
      have hlen2 : (post.drop t.size).length = q.length * t.size := by rw [List.length_drop]; omega
      obtain ⟨css, c1, c2, c3⟩ := elems_fill he hf hfr h0 q (i + 1) l' (pre ++ vs) (post.drop t.size) hl (by rw [List.length_append, hvl, h1, Nat.succ_mul]) hlen2
      refine ⟨vs :: css, .cons g2 c1, by simp [c2], ?_⟩
      have hvc := sv_one htop g2
      have hev : a.eval x = sv t vs := hfr.ev g1
      simp only [List.map_cons, Instr.fill, hev, hvc]
      have hcond : ¬ ((vs.toArray.size ≠ t.size || decide (i * t.size + vs.toArray.size > (pre ++ post).toArray.size)) = true) := by
        simp [hvl, h1]; omega
      rw [if_neg hcond]
      have hput : vs.toArray.zipIdx.foldl (fun cs (c, j) => cs.setIfInBounds (i * t.size + j) c) (pre ++ post).toArray = (pre ++ vs ++ post.drop t.size).toArray := by
        apply Array.ext'
        rw [foldl_put' vs (i * t.size) (pre ++ post).toArray (by simp [hvl, h1]; omega)]
        rw [← h1]
        simp [hvl]
      rw [hput, c3]
      simp

theorem ext_alloc (w : World) (o : Obj) : Ext (fun _ => none) [] w (w.alloc o) := by
  have hkeep : ∀ k, k < w.heap.size → (w.alloc o).heap[k]? = w.heap[k]? := fun k hk => Go.RowKit.Below.heap_alloc w o k hk
  exact ⟨rfl, rfl, rfl, by simp, fun k hk _ _ => hkeep k hk, fun k _ hk _ _ => Same.of_block (hkeep k hk), fun c hc => (by cases hc)⟩
theorem buildSlice_ext (hc : CtxOk P G c) (hn : c.n = N) {t n : Nat} {parts : Array (Nat × Operand)} (h : effE c ⟨dst, .buildSlice t n parts, ty, pos, af, gd⟩ S k = some r) : ∃ S', k S' = some r ∧ ∀ a w, At N C G S a w → ∃ v w', (execOp a.eval ⟨dst, .buildSlice t n parts, ty, pos, af, gd⟩).run P w = .ok (.value v) w' ∧ Ext (fun _ => none) [] w w' ∧ At N C G S' (a.put dst v) w' := by
  simp only [effE] at h
  split at h
  case h_2 => cases h
  case h_1 t' el sz hi =>
  have ho := hc.ty _ _ hi
  cases hb : (Nat.beq n parts.size && Nat.ble (n * t'.size) 16777216) with
  | false => rw [hb] at h; cases h
  | true =>
    rw [hb] at h
    simp only [cond_true] at h
    simp only [Bool.and_eq_true] at hb
    have hnp := Nat.eq_of_beq_eq_true hb.1
    have hsm := Nat.le_of_ble_eq_true hb.2
    split at h
    case h_2 => cases h
    case h_1 l hl =>
    obtain ⟨S', h1, h2⟩ := out_ok (C := C) (G := G) hn h
    refine ⟨S', h1, fun a w ⟨W, e, eh, oh, hs, hf, hb2⟩ => ?_⟩
    obtain ⟨hts, happ, _, hfr, _, _⟩ := ho.sl t' rfl
    have happ' := happ
    obtain ⟨i0, z, q1, q2, q3, q4, q5, q6, q7⟩ := happ
    have hzl : ((Array.range (n * t'.size)).map (z.cells[· % z.cells.size]!)).toList.length = parts.toList.length * t'.size := by simp [hnp]
    obtain ⟨css, c1, c2, c3⟩ := elems_fill hs.env hfr hf q7 parts.toList 0 l [] ((Array.range (n * t'.size)).map (z.cells[· % z.cells.size]!)).toList hl (by simp) hzl
    have hll : l.length = n := by rw [c2, Array.length_toList, ← hnp]
    have hrun : (execOp a.eval ⟨dst, .buildSlice t n parts, ty, pos, af, gd⟩).run P w = .ok (.value (.slice (some ⟨w.heap.size, 0, none⟩) n n)) (w.alloc (.cells css.flatten.toArray el)) := by
      have hbig : ¬ n * t'.size > 2 ^ 24 := by omega
      have hpl : (parts.map fun p => (p.1, a.eval p.2)).toList = parts.toList.map fun p => (p.1, a.eval p.2) := by simp
      have hb3 : (Instr.buildSlice t n (parts.map fun p => (p.1, a.eval p.2))).run P w = .ok (.slice (some ⟨w.heap.size, 0, none⟩) n n) (w.alloc (.cells css.flatten.toArray el)) := by
        have c4 : Instr.fill (fun j => some (j * t'.size, t'.size)) ((Array.range (n * t'.size)).map (z.cells[· % z.cells.size]!)) (parts.map fun p => (p.1, a.eval p.2)).toList = some css.flatten.toArray := by
          rw [hpl]
          rw [List.nil_append, List.nil_append, Array.toArray_toList] at c3
          exact c3
        have hszr := run_sizeOf' (P := P) (tSl_spec hts).2 w
        rcases Nat.eq_zero_or_pos n with h0 | hn0
        · subst h0
          have c5 : css.flatten = [] := by
            have : css = [] := List.length_eq_zero_iff.1 (by rw [← c1.length, hll])
            rw [this]; rfl
          have hp0 : parts = #[] := Array.eq_empty_of_size_eq_zero hnp.symm
          subst hp0
          rw [c5]
          simp only [Instr.buildSlice, Sem.run_bind, run_underlying (tSl_spec hts).1, Result.andThen, hszr]
          simp [newRow, Instr.fill]
          congr 2
          apply Array.ext'
          simp [Array.range]
        have h00 : n * t'.size ≠ 0 := Nat.pos_iff_ne_zero.1 (Nat.mul_pos hn0 q7)
        simp only [Instr.buildSlice, Sem.run_bind, run_underlying (tSl_spec hts).1, Result.andThen, hszr, hbig, if_false, h00]
        simp at c4
        simp [zeroValue, typeInfo, q2, q3, c4, newRow]
      simp only [execOp]
      simp [hb3]
    have hbA := hb2.alloc (.cells css.flatten.toArray el)
    have hall : ∀ cx ∈ css, cx.length = t'.size := fun cx hcx => by
      obtain ⟨ix, hix⟩ := List.getElem?_of_mem hcx
      have hlt := (List.getElem?_eq_some_iff.1 hix).1
      rw [← c1.length] at hlt
      obtain ⟨b', hb1, hb3⟩ := c1.get (List.getElem?_eq_getElem hlt)
      rw [hix] at hb1
      injection hb1 with hb1
      subst hb1
      exact hb3.len
    have hfl : css.flatten.length = l.length * t'.size := by rw [flat_len css hall, c1.length]
    have hbR := new_row (p := true) hbA hfl (by unfold maxLen; have : n * 1 ≤ n * t'.size := Nat.mul_le_mul_left n q7; omega)
    obtain ⟨φ', f1, f2, f3⟩ := grow_fact q7 hbR
    refine ⟨_, _, hrun, ext_alloc _ _, ?_⟩
    rw [← hll]
    exact h2 ⟨φ', W.adr, W.hd⟩ e eh oh _ _ a _ (hs.mono f1) ⟨[.slice (some ⟨w.heap.size, 0, none⟩) l.length l.length], rfl, rfl, some ⟨w.heap.size, 0, none⟩, l.length, css, rfl, Nat.le_refl _, c1.imp fun _ _ h => h.mono f1, f2, rfl⟩ hf f3
theorem buildSlice_ok (hc : CtxOk P G c) (hn : c.n = N) {t n : Nat} {parts : Array (Nat × Operand)} (h : effE c ⟨dst, .buildSlice t n parts, ty, pos, af, gd⟩ S k = some r) : ∃ S', k S' = some r ∧ ∀ a w, At N C G S a w → OpWp P N C G ⟨dst, .buildSlice t n parts, ty, pos, af, gd⟩ S' a w := by
  obtain ⟨S', h1, h2⟩ := buildSlice_ext (N := N) (C := C) hc hn h
  refine ⟨S', h1, fun a w hat => ?_⟩
  obtain ⟨v, w', q1, _, q3⟩ := h2 a w hat
  exact .value q1 q3

theorem made_flat {z : Array Value} {s : Nat} (hs : z.size = s) (n : Nat) : madeCells z (n * s) = (List.replicate n z.toList).flatten.toArray := by
  have hall : ∀ c ∈ List.replicate n z.toList, c.length = s := fun c hc => by rw [(List.mem_replicate.1 hc).2]; simpa using hs
  apply Array.ext'
  apply List.ext_getElem?
  intro i
  by_cases hi : i < n * s
  · have hs0 : 0 < s := by
      rcases Nat.eq_zero_or_pos s with h | h
      · rw [h] at hi; simp at hi
      · exact h
    have hq : i / s < n := Nat.div_lt_of_lt_mul (by rwa [Nat.mul_comm] at hi)
    have hr : i % s < z.toList.length := by simpa [hs] using Nat.mod_lt i hs0
    have h1 := flat_get (List.replicate n z.toList) hall (i / s) z.toList (by rw [List.getElem?_replicate, if_pos hq]) (i % s) _ (List.getElem?_eq_getElem hr)
    rw [Nat.mul_comm, Nat.div_add_mod] at h1
    rw [show (List.replicate n z.toList).flatten.toArray.toList = (List.replicate n z.toList).flatten from rfl, h1]
    have hr' : i % z.size < z.size := by rw [hs]; simpa [hs] using hr
    simp [madeCells, hi, hs]
    exact getElem!_pos z (i % s) (by rw [hs]; exact Nat.mod_lt i hs0)
  · rw [List.getElem?_eq_none (by simp [madeCells]; omega), List.getElem?_eq_none]
    show (List.replicate n z.toList).flatten.length ≤ i
    rw [flat_len _ hall, List.length_replicate]
    omega
theorem make0_ok (hc : CtxOk P G c) (hn : c.n = N) {t el sz : Nat} {t' : Ty} {kx ky : IntKind} {m : Int} {z : t'.den} {x y : Operand} {l : List t'.den} (hx : S.get x = .v (.int kx) (0 : Int)) (hy : S.get y = .v (.int ky) m) (hi : look c.ty t = some ⟨.sl t', el, sz⟩) (hz : zero t' = some z) (hl : made0 sz m = some l)
    (h : out c ⟨dst, .makeSlice t x y, ty, pos, af, gd⟩ S (.v (.rw el t') l) k = some r) : ∃ S', k S' = some r ∧ ∀ a w, At N C G S a w → OpWp P N C G ⟨dst, .makeSlice t x y, ty, pos, af, gd⟩ S' a w := by
  have ho := hc.ty _ _ hi
  unfold made0 at hl
  split at hl
  case isFalse => cases hl
  case isTrue hm =>
  simp only [Option.some.injEq] at hl
  subst hl
  obtain ⟨S', h1, h2⟩ := out_ok (N := N) (C := C) (G := G) hn h
  refine ⟨S', h1, fun a w ⟨W, e, eh, oh, hs, hf, hb⟩ => ?_⟩
  obtain ⟨hts, happ, _, hfr, hsz0, htz⟩ := ho.sl t' rfl
  obtain ⟨i0, zz, q1, q2, q3, q4, q5, q6, q7⟩ := happ
  obtain ⟨inf, v, p1, p2, p3⟩ := htz (by rw [hz]; rfl)
  obtain ⟨h0, r1, _⟩ := zero_ok (φ := W.φ) hz
  have := Rp.er_nil hfr r1
  subst this
  have hinf : inf = i0 := Option.some.inj (p1.symm.trans q2)
  subst hinf
  have hvz : v = zz := Option.some.inj (p2.symm.trans q3)
  subst hvz
  obtain ⟨n, hn1⟩ : ∃ n : Nat, m = n := ⟨m.toNat, (Int.toNat_of_nonneg hm.1).symm⟩
  subst hn1
  have hn47 : n * sz ≤ 140737488355328 := by
    have h9 : ((n * sz : Nat) : Int) ≤ 140737488355328 := by rw [Int.natCast_mul]; exact hm.2
    omega
  have hn47' : n ≤ 140737488355328 := Nat.le_trans (Nat.le_mul_of_pos_right _ hsz0) hn47
  have hrun : (execOp a.eval ⟨dst, .makeSlice t x y, ty, pos, af, gd⟩).run P w = .ok (.value (.slice (some ⟨w.heap.size, 0, none⟩) 0 n)) (w.alloc (.cells (List.replicate n (zcells t')).flatten.toArray el)) := by
    have e1 := hf.ev (get_int hs.env hx)
    have e2 := hf.ev (get_int hs.env hy)
    have q5' : inf.bytes = sz := q5
    have hby : inf.bytes * n ≤ 281474976710656 := by rw [q5', Nat.mul_comm]; omega
    have hby2 : (inf.bytes : Int) * (n : Int) ≤ 281474976710656 := by
      have : ((inf.bytes * n : Nat) : Int) ≤ 281474976710656 := by omega
      rwa [Int.natCast_mul] at this
    have hr0 := fun kl kc => run_make (P := P) w t el inf v q1 q2 q3 kl kc (0 : Int) (n : Int) (by omega) (by omega) hby2 (by omega)
    simp only [Int.toNat_natCast, q4] at hr0
    rw [made_flat q6] at hr0
    have hzl : v.cells.toList = zcells t' := by rw [p3]
    rw [hzl] at hr0
    simp [execOp, e1, e2, hr0]
  have hbA := hb.alloc (.cells (List.replicate n (zcells t')).flatten.toArray el)
  have hall : ∀ cx ∈ List.replicate n (zcells t'), cx.length = t'.size := fun cx hcx => by rw [(List.mem_replicate.1 hcx).2]; exact r1.len
  have hfl : (List.replicate n (zcells t')).flatten.length = n * t'.size := by rw [flat_len _ hall, List.length_replicate]
  have hg : (w.alloc (.cells (List.replicate n (zcells t')).flatten.toArray el)).heap[w.heap.size]? = some (.cells (List.replicate n (zcells t')).flatten.toArray el (0, 0)) := hbA.hp.hold _ List.mem_cons_self
  have hbR := hbA.turn (c' := .row true (.slice (some ⟨w.heap.size, 0, none⟩) 0 n) el t'.size 0 []) (Ext.refl _ _ _) ⟨by simp, .inr ⟨w.heap.size, n, _, rfl, Nat.zero_le _, hg, Nat.zero_le _, by unfold maxLen; omega, by simpa using hfl, by simp⟩⟩ (fun g' hg' => .inl ⟨hg', Nat.zero_le _⟩)
  refine .value hrun ?_
  exact h2 W e eh oh _ _ a _ hs ⟨[.slice (some ⟨w.heap.size, 0, none⟩) 0 n], rfl, rfl, some ⟨w.heap.size, 0, none⟩, n, [], rfl, Nat.zero_le _, .nil, fun h => absurd h (by simp), rfl⟩ hf hbR
theorem makeSlice_ok (hc : CtxOk P G c) (hn : c.n = N) {t : Nat} {x y : Operand} (h : effE c ⟨dst, .makeSlice t x y, ty, pos, af, gd⟩ S k = some r) : ∃ S', k S' = some r ∧ ∀ a w, At N C G S a w → OpWp P N C G ⟨dst, .makeSlice t x y, ty, pos, af, gd⟩ S' a w := by
  simp only [effE] at h
  cases hrw : isRw0 c ⟨dst, .makeSlice t x y, ty, pos, af, gd⟩ x with
  | true =>
    rw [hrw] at h
    simp only [cond_true] at h
    split at h
    case h_2 => cases h
    case h_1 t' el sz _ a _ b hi hx hy =>
    split at h
    case h_2 => cases h
    case h_1 z hz =>
    split at h
    case isFalse => cases h
    case isTrue ha =>
    subst ha
    obtain ⟨l, hl, h⟩ := Option.bind_eq_some_iff.1 h
    exact make0_ok hc hn hx hy hi hz hl h
  | false =>
  rw [hrw] at h
  simp only [cond_false] at h
  generalize hx : S.get x = dx at h
  generalize hy : S.get y = dy at h
  split at h
  case h_2 => cases h
  case h_1 t' el sz _ m _ m2 d hi =>
  have ho := hc.ty _ _ hi
  split at h
  case h_2 => cases h
  case h_1 z hz =>
  obtain ⟨l, hl, h⟩ := Option.bind_eq_some_iff.1 h
  unfold made at hl
  split at hl
  case isFalse => cases hl
  case isTrue hm =>
  simp only [Option.some.injEq] at hl
  subst hl
  obtain ⟨S', h1, h2⟩ := newA_ok (C := C) (G := G) hn h
  refine ⟨S', h1, fun a w ⟨W, e, eh, oh, hs, hf, hb⟩ => ?_⟩
  obtain ⟨hts, happ, _, hfr, hsz0, htz⟩ := ho.sl t' rfl
  obtain ⟨i0, zz, q1, q2, q3, q4, q5, q6, q7⟩ := happ
  obtain ⟨inf, v, p1, p2, p3⟩ := htz (by rw [hz]; rfl)
  obtain ⟨h0, r1, _⟩ := zero_ok (φ := W.φ) hz
  have := Rp.er_nil hfr r1
  subst this
  have hinf : inf = i0 := Option.some.inj (p1.symm.trans q2)
  subst hinf
  have hvz : v = zz := Option.some.inj (p2.symm.trans q3)
  subst hvz
  obtain ⟨n, hn1⟩ : ∃ n : Nat, (m : Int) = n := ⟨(m : Int).toNat, (Int.toNat_of_nonneg hm.1).symm⟩
  have hm2 : (m2 : Int) = n := by have := hm.2.1; rw [← this]; exact hn1
  have htn : (m : Int).toNat = n := by rw [hn1]; rfl
  have hn47 : n * sz ≤ 140737488355328 := by
    have h9 : ((n * sz : Nat) : Int) ≤ 140737488355328 := by rw [Int.natCast_mul, ← hm2]; exact hm.2.2
    omega
  have hn47' : n ≤ 140737488355328 := Nat.le_trans (Nat.le_mul_of_pos_right _ hsz0) hn47
  have hrun : (execOp a.eval ⟨some d, .makeSlice t x y, ty, pos, af, gd⟩).run P w = .ok (.value (.slice (some ⟨w.heap.size, 0, none⟩) n n)) (w.alloc (.cells (List.replicate n (zcells t')).flatten.toArray el)) := by
    have e1 := hf.ev (get_int hs.env hx)
    have e2 := hf.ev (get_int hs.env hy)
    have q5' : inf.bytes = sz := q5
    have hby : inf.bytes * n ≤ 281474976710656 := by rw [q5', Nat.mul_comm]; omega
    have hby2 : (inf.bytes : Int) * (n : Int) ≤ 281474976710656 := by
      have : ((inf.bytes * n : Nat) : Int) ≤ 281474976710656 := by omega
      rwa [Int.natCast_mul] at this
    have hr0 := fun kl kc => run_make (P := P) w t el inf v q1 q2 q3 kl kc (n : Int) (n : Int) (by omega) (by omega) hby2 (by omega)
    simp only [Int.toNat_natCast, q4] at hr0
    rw [made_flat q6] at hr0
    have hzl : v.cells.toList = zcells t' := by rw [p3]
    rw [hzl] at hr0
    rw [hn1] at e1
    rw [hm2] at e2
    simp [execOp, e1, e2, hr0]
  have hbA := hb.alloc (.cells (List.replicate n (zcells t')).flatten.toArray el)
  have hall : ∀ cx ∈ List.replicate n (zcells t'), cx.length = t'.size := fun cx hcx => by rw [(List.mem_replicate.1 hcx).2]; exact r1.len
  have hfl : (List.replicate n (zcells t')).flatten.length = n * t'.size := by rw [flat_len _ hall, List.length_replicate]
  have hbR := new_row (p := false) hbA hfl (by unfold maxLen; omega)
  refine .value hrun ?_
  have hlr : (List.replicate (m : Int).toNat z).length = n := by rw [List.length_replicate]; exact htn
  have := h2 W e eh oh (some ⟨w.heap.size, 0, none⟩) n (List.replicate n (zcells t')) a (w.alloc (.cells (List.replicate n (zcells t')).flatten.toArray el)) hs (by rw [hlr]; exact Nat.le_refl _) (by rw [htn]; exact All2.replicate (R := fun x cs => Rp W.φ t' x cs []) r1 n) (fun _ => rfl) hf (by rw [hlr]; exact hbR)
  rw [hlr] at this
  exact this
end
end Go.Lf
