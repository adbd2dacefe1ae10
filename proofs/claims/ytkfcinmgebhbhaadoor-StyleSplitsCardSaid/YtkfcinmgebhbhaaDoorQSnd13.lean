/-
  'append'.
-/
import Derived.Test.YtkfcinmgebhbhaaDoorQSnd12
namespace Go.Lf
open Go Go.Eng

section
variable {P : Program} {N : Nat} {C : Cx} {G : World → Prop} {c : Ctx} {S : St} {Rt : Type} {k : St → Option Rt} {r : Rt} {a : Act} {w : World}
variable {W : Wit} {e : Env} {eh oh : List Chunk} {dst : Option Tmp} {ty : TypeId} {pos : String} {af : Array Edge} {gd : Option (Nat × Bool)}

theorem all2_len {φ : Phi} {t : Ty} {l : List t.den} {css : List (List Value)} (h : All2 (fun x cs => Rp φ t x cs []) l css) : (∀ cx ∈ css, cx.length = t.size) ∧ ∀ u ∈ css.flatten, u.oneCell' = true := by
  have key : ∀ cx ∈ css, ∃ x, Rp φ t x cx [] := fun cx hcx => by
    obtain ⟨ix, hix⟩ := List.getElem?_of_mem hcx
    have hlt := (List.getElem?_eq_some_iff.1 hix).1
    rw [← h.length] at hlt
    obtain ⟨b', hb1, hb3⟩ := h.get (List.getElem?_eq_getElem hlt)
    rw [hix] at hb1
    injection hb1 with hb1
    subst hb1
    exact ⟨_, hb3⟩
  refine ⟨fun cx hcx => (key cx hcx).elim fun x hx => hx.len, fun u hu => ?_⟩
  obtain ⟨cx, hcx, hu2⟩ := List.mem_flatten.1 hu
  exact (key cx hcx).elim fun x hx => hx.one u hu2

theorem src_ok (hc : CtxOk P G c) {t2 : Nat} {t : Ty} {y : Operand} {m : List t.den} (hs : SRel S W e eh oh) (h : appSrc c t2 S t y = some m) :
    ∃ v css, EV e y v ∧ All2 (fun x cs => Rp W.φ t x cs []) m css ∧ ∀ w, Hb C w (eh ++ oh) (Inv G W.φ) → Src P t.size t2 v m.length css.flatten w := by
  have slice : ∀ (A : Option Addr) (cc : Nat) (css : List (List Value)), isTy c t2 (.sl t) = true → All2 (fun x cs => Rp W.φ t x cs []) m css → (0 < m.length → A.isSome = true) → ∀ w, (∀ ad, A = some ad → ∀ j u, css.flatten[j]? = some u → w.cell? (ad.add j) = some u) → Src P t.size t2 (.slice A m.length cc) m.length css.flatten w := by
    intro A cc css hb h1 h2 w h3
    obtain ⟨i, hi, ho⟩ := isTyOk hc.ty hb
    have hu := (tSl_spec (ho.sl t hi).1).1
    obtain ⟨l1, l2⟩ := all2_len h1
    have hfl : css.flatten.length = m.length * t.size := by rw [flat_len css l1, h1.length]
    cases A with
    | none =>
      have hm : m.length = 0 := Nat.eq_zero_of_not_pos fun h => absurd (h2 h) (by simp)
      have hcs : css = [] := List.eq_nil_of_length_eq_zero (by rw [← h1.length]; exact hm)
      subst hcs
      rw [hm]
      exact Src.ofNil w hu cc
    | some ad => exact Src.ofSlice w hu ad m.length cc css.flatten hfl (h3 ad rfl) l2
  unfold appSrc at h
  generalize hy : S.get y = dy at h
  split at h
  · rename_i l
    cases hb : isTy c t2 .str with
    | false => rw [hb] at h; cases h
    | true =>
      rw [hb] at h
      simp only [cond_true] at h
      obtain ⟨i, hi, ho⟩ := isTyOk hc.ty hb
      cases t <;> first | cases h | skip
      rename_i kk
      cases kk <;> first | cases h | skip
      refine ⟨_, List.map (fun n : Int => [Value.int .u8 n]) (bytesI l), get_str hs.env hy, ?_, fun w _ => ?_⟩
      · clear hy hb slice
        induction l with
        | nil => exact .nil
        | cons x q ih => exact .cons ⟨rfl, rfl⟩ ih
      · have h9 := Src.ofString w (tStr_spec (ho.str hi)) ⟨l.toArray⟩
        rw [u8_flat]
        have e1 : byteCells ⟨l.toArray⟩ = List.map (Value.int .u8) (bytesI l) := by simp [byteCells, bytesI]
        have e2 : (ByteArray.mk l.toArray).size = List.length (bytesI l) := by rw [str_size]; simp [bytesI]
        rw [e1, e2] at h9
        exact h9
  · rename_i j p off
    split at h
    case h_2 => cases h
    case h_1 el t' m' hat =>
    split at h
    case isFalse => cases h
    case isTrue he =>
    subst he
    cases hb : isTy c t2 (.sl t') with
    | false => rw [hb] at h; cases h
    | true =>
      rw [hb] at h
      have hm : m' = m := by simpa using h
      subst hm
      obtain ⟨v, g1, g2⟩ := get_aref hs.env hy
      obtain ⟨ob, pre, mid, post, x1, x2, x3, rr, q1, q2, q3, q4, q5⟩ := at_cells hs.obs hat
      obtain ⟨A, cc, css, m1, m2, m3, m4, m5⟩ := q4
      have m1 : mid = [.slice A (List.length m') cc] := m1
      subst m1
      have hv : v = .slice A (List.length m') cc := by
        rw [q2, ← q3] at g2
        simpa using g2.symm
      subst hv
      refine ⟨_, css, g1, m3, fun w hbw => slice A cc css hb m3 m4 w fun ad hA j u hu => ?_⟩
      have hrow : Chunk.row false (.slice A (List.length m') cc) el t'.size (List.length m') css.flatten ∈ eh ++ oh := by
        refine List.mem_append_right _ (q5.mem_iff.2 ?_)
        have m5' : x2 = [.row false (.slice A (List.length m') cc) el t'.size (List.length m') css.flatten] := m5
        simp [m5']
      have hown : w.ownsRow 0 el t'.size (.slice A (List.length m') cc) (List.length m') css.flatten := hbw.hp.hold _ hrow
      obtain ⟨ad', h8, h9⟩ := (Rd.of_row hown).cell hu
      rw [hA] at h8
      injection h8 with h8
      rw [h8]
      exact h9
  · cases hb : isTy c t2 (.sl t) with
    | false => rw [hb] at h; cases h
    | true =>
      rw [hb] at h
      simp only [cond_true] at h
      rw [← hy] at h
      obtain ⟨i, hi, ho⟩ := isTyOk hc.ty hb
      obtain ⟨cs, g1, ⟨A, cc, css, rfl, g3, g4, g5, _⟩⟩ := asTy_get hs.env h (t := .sl t) rfl
      refine ⟨_, css, g1, g4, fun w hbw => slice A cc css hb g4 (fun hp => by obtain ⟨ad, rfl, _⟩ := g5 hp; rfl) w fun ad hA j u hu => ?_⟩
      rcases Nat.eq_zero_or_pos (List.length m) with h0 | h0
      · have hcs : css = [] := List.eq_nil_of_length_eq_zero (by rw [← g4.length]; exact h0)
        subst hcs
        simp at hu
      · obtain ⟨ad', hA', h9⟩ := g5 h0
        rw [hA] at hA'
        injection hA' with hA'
        subst hA'
        exact hbw.get.2 _ _ (h9 j u hu)

/-- the row grows -/
theorem append_core {t tx el bytes size : Nat} {p : Bool} {A : Option Addr} {cc n m : Nat} {xs news : List Value} {v : Value} {x y : Operand} {rest : List Chunk} {φ : Phi} (ha : AppTy P t el size bytes) (hby : 0 < bytes)
    (hb : Hb C w (.row p (.slice A n cc) el size n xs :: rest) (Inv G φ)) (hsrc : Src P size tx v m news w) (hlim : (n + m) * bytes ≤ 140737488355328) (hx : a.eval x = .slice A n cc) (hy : a.eval y = v) {args : Array Operand} {tys : Array TypeId} (h1 : args.toList = [x, y]) (h2 : tys.toList = [t, tx]) :
    ∃ A' c' w', (execOp a.eval ⟨dst, .call ⟨.builtin .append, args, tys⟩, ty, pos, af, gd⟩).run P w = .ok (.value (.slice A' (n + m) c')) w' ∧ Hb C w' (.row p (.slice A' (n + m) c') el size (n + m) (xs ++ news) :: rest) (Inv G φ) := by
  have e1 : args = #[x, y] := by rw [← Array.toArray_toList (xs := args), h1]
  have e2 : tys = #[t, tx] := by rw [← Array.toArray_toList (xs := tys), h2]
  subst e1 e2
  have hown : w.ownsRow 0 el size (.slice A n cc) n xs := hb.hp.hold _ List.mem_cons_self
  obtain ⟨A', c', w', q1, q2, q3, q4⟩ := run_append_row (P := P) (ty := ty) (p := p) ha hown hsrc hlim hby
  refine ⟨A', c', w', ?_, ?_⟩
  · simp [execOp, resolve, invoke, builtin, hx, hy, q1]
  · refine hb.turn (c' := .row p (.slice A' (n + m) c') el size (n + m) (xs ++ news)) q3 q2 fun g hg => ?_
    rcases q4 g hg with h3 | h3
    · refine .inl ⟨h3, ?_⟩
      unfold Chunk.pre
      cases p
      · exact Nat.le_refl _
      · exact Nat.mul_le_mul_right _ (by omega)
    · exact .inr h3

theorem app_ok {α : Type} {b : Nat} {l m x : List α} (h : app b l m = some x) : (l.length + m.length) * b ≤ 140737488355328 ∧ x = l ++ m := by
  unfold app at h
  split at h
  · simp only [Option.some.injEq] at h; exact ⟨‹_›, h.symm⟩
  · cases h

theorem appendT_ok (hc : CtxOk P G c) (hn : c.n = N) {x y : Operand} {t t2 : Nat} {args : Array Operand} {tys : Array TypeId} (ha1 : args.toList = [x, y]) (ha2 : tys.toList = [t, t2])
    (h : appendT c ⟨dst, .call ⟨.builtin .append, args, tys⟩, ty, pos, af, gd⟩ S x y t t2 k = some r) : ∃ S', k S' = some r ∧ ∀ a w, At N C G S a w → OpWp P N C G ⟨dst, .call ⟨.builtin .append, args, tys⟩, ty, pos, af, gd⟩ S' a w := by
  unfold appendT at h
  split at h
  case h_2 => cases h
  case h_1 te el sz hi =>
  obtain ⟨hts, happ, _, _, hsz0, _⟩ := (hc.ty _ _ hi).sl te rfl
  have hpos : 0 < te.size := by obtain ⟨_, _, _, _, _, _, _, _, h⟩ := happ; exact h
  split at h
  case h_1 => cases h
  case h_2 m hm =>
  -- a head that nobody else sees, grown
  have mrcase : ∀ {S1 : St} {d : Nat} {l : List te.den} {l2 : List te.den}, dst = some d → app sz l m = some l2 → newA c d el te l2 S1 k = some r →
      ∃ S', k S' = some r ∧ ∀ (a : Act) (w : World) W e eh oh eh1 oh1 A cc css, SRel S W e eh oh → SRel S1 W e eh1 oh1 → Fr a N e → Hb C w (eh ++ oh) (Inv G W.φ) → EV e x (.slice A (List.length l) cc) → All2 (fun x cs => Rp W.φ te x cs []) l css →
        Hb C w (.row false (.slice A (List.length l) cc) el te.size (List.length l) css.flatten :: (eh1 ++ oh1)) (Inv G W.φ) → OpWp P N C G ⟨dst, .call ⟨.builtin .append, args, tys⟩, ty, pos, af, gd⟩ S' a w := by
    intro S1 d l l2 hd happl h
    subst hd
    obtain ⟨q1, q2⟩ := app_ok happl
    subst q2
    obtain ⟨S', h1, h2⟩ := newA_ok (C := C) (G := G) hn h
    refine ⟨S', h1, fun a w W e eh oh eh1 oh1 A cc css hs hs1 hf hb hx hcss hrow => ?_⟩
    obtain ⟨v, cssm, g1, g2, g3⟩ := src_ok (P := P) (C := C) (G := G) hc hs hm
    obtain ⟨A', c', w', r1, r2⟩ := append_core (dst := some d) (ty := ty) (pos := pos) (af := af) (gd := gd) (x := x) (y := y) happ hsz0 hrow (g3 w hb) q1 (hf.ev hx) (hf.ev g1) ha1 ha2
    have hall := hcss.append g2
    have hln : (l ++ m).length = List.length l + List.length m := List.length_append
    refine .value r1 ?_
    have hown : w'.ownsRow 0 el te.size (.slice A' (List.length l + List.length m) c') (List.length l + List.length m) (css.flatten ++ cssm.flatten) := r2.hp.hold _ List.mem_cons_self
    have hle : List.length l + List.length m ≤ c' ∧ (0 < List.length l + List.length m → A'.isSome = true) := by
      rcases hown.2 with ⟨hv, hz⟩ | ⟨g, cap, cur, hv, _, _, hnc, _⟩
      · exact ⟨by omega, fun h => by omega⟩
      · injection hv with e1 e2 e3; subst e1 e3; exact ⟨hnc, fun _ => rfl⟩
    have := h2 W e eh1 oh1 A' c' (css ++ cssm) a w' hs1 (by rw [hln]; exact hle.1) hall (by rw [hln]; exact hle.2) hf (by rw [hln, List.flatten_append]; exact r2)
    rw [hln] at this
    exact this
  have rwcase : ∀ {S1 : St} {l : List te.den} {l2 : List te.den}, app sz l m = some l2 → out c ⟨dst, .call ⟨.builtin .append, args, tys⟩, ty, pos, af, gd⟩ S1 (.v (.rw el te) l2) k = some r →
      ∃ S', k S' = some r ∧ ∀ (a : Act) (w : World) W e eh oh eh1 oh1 A cc css, SRel S W e eh oh → SRel S1 W e eh1 oh1 → Fr a N e → Hb C w (eh ++ oh) (Inv G W.φ) → EV e x (.slice A (List.length l) cc) → All2 (fun x cs => Rp W.φ te x cs []) l css →
        Hb C w (.row true (.slice A (List.length l) cc) el te.size (List.length l) css.flatten :: (eh1 ++ oh1)) (Inv G W.φ) → OpWp P N C G ⟨dst, .call ⟨.builtin .append, args, tys⟩, ty, pos, af, gd⟩ S' a w := by
    intro S1 l l2 happl h
    obtain ⟨q1, q2⟩ := app_ok happl
    subst q2
    obtain ⟨S', h1, h2⟩ := out_ok (C := C) (G := G) hn h
    refine ⟨S', h1, fun a w W e eh oh eh1 oh1 A cc css hs hs1 hf hb hx hcss hrow => ?_⟩
    obtain ⟨v, cssm, g1, g2, g3⟩ := src_ok (P := P) (C := C) (G := G) hc hs hm
    obtain ⟨A', c', w', r1, r2⟩ := append_core (dst := dst) (ty := ty) (pos := pos) (af := af) (gd := gd) (x := x) (y := y) happ hsz0 hrow (g3 w hb) q1 (hf.ev hx) (hf.ev g1) ha1 ha2
    have hall := hcss.append g2
    have hln : (l ++ m).length = List.length l + List.length m := List.length_append
    have hown : w'.ownsRow 0 el te.size (.slice A' (List.length l + List.length m) c') (List.length l + List.length m) (css.flatten ++ cssm.flatten) := r2.hp.hold _ List.mem_cons_self
    have hle : List.length l + List.length m ≤ c' := by
      rcases hown.2 with ⟨hv, hz⟩ | ⟨g, cap, cur, hv, _, _, hnc, _⟩
      · omega
      · injection hv with e1 e2 e3; subst e1 e3; exact hnc
    obtain ⟨φ', f1, f2, f3⟩ := grow_fact hpos r2
    refine .value r1 ?_
    have hs2 := hs1.mono f1
    refine h2 ⟨φ', W.adr, W.hd⟩ e eh1 oh1 _ [.row true (.slice A' (List.length l + List.length m) c') el te.size (List.length l + List.length m) (css.flatten ++ cssm.flatten)] a w' hs2 ⟨[.slice A' (List.length l + List.length m) c'], rfl, rfl, A', c', css ++ cssm, by rw [hln], by rw [hln]; exact hle, hall.imp fun _ _ h => h.mono f1, by rw [hln, List.flatten_append]; exact f2, by rw [hln, List.flatten_append]⟩ hf f3
  split at h
  · rename_i el' t' l hx
    split at h
    case isFalse => cases h
    case isTrue he =>
    subst he
    cases hb : Nat.beq el' el with
    | false => rw [hb] at h; cases h
    | true =>
      rw [hb] at h
      simp only [cond_true] at h
      have hel := Nat.eq_of_beq_eq_true hb
      subst hel
      obtain ⟨l2, hl2, h⟩ := Option.bind_eq_some_iff.1 h
      obtain ⟨S', h1, h2⟩ := rwcase hl2 h
      refine ⟨S', h1, fun a w ⟨W, e, eh, oh, hs, hf, hbw⟩ => ?_⟩
      obtain ⟨v, hh, eh', q1, ⟨cs, g1, rfl, A, cc, css, rfl, g3, g4, g5, rfl⟩, q3, q4⟩ := strip_ok hs hx (by intro e; cases e)
      exact h2 a w W e eh oh eh' oh A cc css hs q3 hf hbw q1 g4 (((Sub.app q4 (Sub.refl oh)).trans (by rw [List.append_assoc]; exact Sub.refl _)).hb hbw)
  · rename_i hx
    split at h
    case h_2 => cases h
    case h_1 d hd =>
    have hxv : ∀ {W : Wit} {e : Env} {eh oh : List Chunk}, SRel S W e eh oh → EV e x (.slice none 0 0) := fun hs => by
      obtain ⟨v, hh, rr, q1, q2, _⟩ := raw_ok hs.env (x := x) (by rw [hx]; intro e; cases e)
      rw [hx] at q2
      obtain ⟨rfl, _⟩ := q2
      exact q1
    split at h
    · obtain ⟨l2, hl2, h⟩ := Option.bind_eq_some_iff.1 h
      obtain ⟨S', h1, h2⟩ := mrcase hd hl2 h
      exact ⟨S', h1, fun a w ⟨W, e, eh, oh, hs, hf, hbw⟩ => h2 a w W e eh oh eh oh none 0 [] hs hs hf hbw (hxv hs) .nil ((Sub.app (Sub.nilrow false el te.size) (Sub.refl _)).hb (by simpa using hbw))⟩
    · obtain ⟨l2, hl2, h⟩ := Option.bind_eq_some_iff.1 h
      obtain ⟨S', h1, h2⟩ := rwcase hl2 h
      exact ⟨S', h1, fun a w ⟨W, e, eh, oh, hs, hf, hbw⟩ => h2 a w W e eh oh eh oh none 0 [] hs hs hf hbw (hxv hs) .nil ((Sub.app (Sub.nilrow true el te.size) (Sub.refl _)).hb (by simpa using hbw))⟩
  · rename_i j p off hx
    split at h
    case h_2 => cases h
    case h_1 d el' t' l S1 hd hta =>
    split at h
    case isFalse => cases h
    case isTrue he =>
    subst he
    cases hb : Nat.beq el' el with
    | false => rw [hb] at h; cases h
    | true =>
      rw [hb] at h
      simp only [cond_true] at h
      have hel := Nat.eq_of_beq_eq_true hb
      subst hel
      obtain ⟨l2, hl2, h⟩ := Option.bind_eq_some_iff.1 h
      obtain ⟨S', h1, h2⟩ := mrcase hd hl2 h
      refine ⟨S', h1, fun a w ⟨W, e, eh, oh, hs, hf, hbw⟩ => ?_⟩
      obtain ⟨v, h0, oh1, b1, b2, b3, b4, _⟩ := takeA_ok hta hs
      obtain ⟨A, cc, css, m1, m2, m3, m4, m5⟩ := b2
      have hv : v = .slice A (List.length l) cc := by injection m1
      subst hv
      obtain ⟨v', hh, rr, r1, ⟨r2, _⟩, _⟩ := raw_ok hs.env (x := x) (by rw [hx]; intro e; cases e) |> fun ⟨v, hh, rr, q1, q2, q3⟩ => (⟨v, hh, rr, q1, (by rw [hx] at q2; exact q2), q3⟩ : ∃ v h r, EV e x v ∧ ((W.hd j)[off]? = some v ∧ h = []) ∧ eh.Perm (h ++ r))
      have hvv : v' = .slice A (List.length l) cc := Option.some.inj (r2.symm.trans b1)
      subst hvv
      have m5' : h0 = [.row false (.slice A (List.length l) cc) el' t'.size (List.length l) css.flatten] := m5
      rw [m5'] at b4
      exact h2 a w W e eh oh eh oh1 A cc css hs b3 hf hbw r1 m3 (((Sub.app (Sub.refl eh) b4).trans (Sub.perm (List.perm_append_comm_assoc _ _ _))).hb hbw)
  · cases h
end
end Go.Lf
