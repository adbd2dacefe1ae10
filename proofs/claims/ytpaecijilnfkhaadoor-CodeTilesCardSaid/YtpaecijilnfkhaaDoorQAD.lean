/-
  A region with a soup in which one call takes a slice's right along.
-/
import Derived.Test.YtpaecijilnfkhaaDoorQAC
import Derived.Deep.LoopGhost
import Derived.Shelf.Strconv.Atoi
import Derived.Shelf.Strconv.Itoa0
import Derived.Shelf.Strconv.Itoa1
import Derived.Shelf.LaysM
import Derived.Shelf.Strconv.Itoa2
import Derived.Shelf.Strconv.Itoa3
import Derived.Shelf.Strconv.AtoiErrFast
import Derived.Shelf.Strconv.ParseIntEmpty
import Derived.Shelf.Strconv.AtoiFail
import Derived.Shelf.Strconv.Clone
import Derived.Shelf.Strconv.SyntaxError
import Derived.Shelf.LaysC
import Derived.Shelf.Strconv.ToError
import Derived.Shelf.Strconv.Lower
import Derived.Shelf.Strconv.ParseUint10
import Derived.Shelf.Strconv.ParseUint10Empty
import Derived.Shelf.Strconv.ParseUint10Any
import Derived.Shelf.Strconv.ParseInt10
import Derived.Shelf.Strconv.AtoiLong
import Derived.Shelf.Strconv.AtoiInnerAll
import Derived.Shelf.Strconv.RangeError
import Derived.Shelf.Strconv.ToErrorRange
import Derived.Shelf.Strconv.AtoiAll
import Derived.Shelf.Strconv.ErrVarAll
import Derived.Shelf.Strings.Search1
import Derived.Shelf.Strings.Search2
import Derived.Shelf.Strings.Search3
import Derived.Shelf.Strings.Count
import Derived.Shelf.Strings.Shaped
import Derived.Shelf.Strings.Split
import Derived.Shelf.Strings.SplitShaped
import Derived.Shelf.Unicode.DecodeSlow
import Derived.Shelf.Unicode.DecodeAny
import Derived.Test.YtpaecijilnfkhaaDoorProg
import Derived.KernelRfl
import Derived.Lib.SmallJoins
import Derived.Lib.SplitLaws
namespace Go.Lf
open Go Go.Eng
section
variable {P : Program} {N : Nat} {C : Cx} {G : World → Prop} {c : Ctx}
/-- what a slice's right is a right to, said by what the slice holds -/
theorem sl_rw {φ : Phi} {t : Ty} {el : Nat} {l0 l' : List t.den} {v : Value} {hx h : List Chunk} (h1 : Rp φ (.rw el t) l0 [v] hx) (h2 : Rp φ (.sl t) l' [v] h) : Rp φ (.rw el t) l' [v] hx := by
  obtain ⟨A, cc, css, e1, g2, g3, g4, rfl⟩ := h1
  obtain ⟨A', cc', css', e2, b2, b3, b4, _⟩ := h2
  have e3 : Value.slice A (List.length l0) cc = .slice A' (List.length l') cc' := by
    injection e1 with e1 _
    injection e2 with e2 _
    rw [← e1, ← e2]
  injection e3 with eA en ec
  subst eA ec
  have hl : css.flatten.length = css'.flatten.length := by
    have f1 : css.flatten.length = css.length * t.size := flat_len css fun cs hcs => by
      obtain ⟨i, hi⟩ := List.getElem?_of_mem hcs
      obtain ⟨x, _, hx⟩ : ∃ x, l0[i]? = some x ∧ Rp φ t x cs [] := by
        have hlt := (List.getElem?_eq_some_iff.1 hi).1
        have hlt2 : i < l0.length := by rw [g3.length]; exact hlt
        obtain ⟨b, hb1, hb2⟩ := g3.get (List.getElem?_eq_getElem hlt2)
        have := Option.some.inj (hb1.symm.trans hi)
        subst this
        exact ⟨_, List.getElem?_eq_getElem hlt2, hb2⟩
      exact hx.len
    have f2 : css'.flatten.length = css'.length * t.size := flat_len css' fun cs hcs => by
      obtain ⟨i, hi⟩ := List.getElem?_of_mem hcs
      obtain ⟨x, _, hx⟩ : ∃ x, l'[i]? = some x ∧ Rp φ t x cs [] := by
        have hlt := (List.getElem?_eq_some_iff.1 hi).1
        have hlt2 : i < l'.length := by rw [b3.length]; exact hlt
        obtain ⟨b, hb1, hb2⟩ := b3.get (List.getElem?_eq_getElem hlt2)
        have := Option.some.inj (hb1.symm.trans hi)
        subst this
        exact ⟨_, List.getElem?_eq_getElem hlt2, hb2⟩
      exact hx.len
    rw [f1, f2, ← g3.length, ← b3.length, en]
  have hf : css.flatten = css'.flatten := by
    by_cases h0 : 0 < l0.length
    · obtain ⟨ad, a1, a2⟩ := g4 h0
      obtain ⟨ad', a3, a4⟩ := b4 (by rw [← en]; exact h0)
      have : ad' = ad := Option.some.inj (a3.symm.trans a1)
      subst this
      refine List.ext_getElem? fun i => ?_
      by_cases hi : i < css.flatten.length
      · have u1 := a2 i _ (List.getElem?_eq_getElem hi)
        have u2 := a4 i _ (List.getElem?_eq_getElem (by rw [← hl]; exact hi))
        rw [List.getElem?_eq_getElem hi, List.getElem?_eq_getElem (by rw [← hl]; exact hi), ← u1, ← u2]
      · rw [List.getElem?_eq_none (by omega), List.getElem?_eq_none (by rw [← hl]; omega)]
    · have e0 : css = [] := List.length_eq_zero_iff.1 (by rw [← g3.length]; omega)
      have e0' : css' = [] := List.length_eq_zero_iff.1 (by rw [← b3.length]; omega)
      rw [e0, e0']
  refine ⟨A, cc, css', by rw [← en]; exact e1, by rw [← en]; exact g2, b3, b4, ?_⟩
  rw [hf, en]
theorem dr_raise {W : Wit} {t : Ty} {el : Nat} {l0 l' : List t.den} {v : Value} {hx : List Chunk} (h1 : DR W (.v (.rw el t) l0) v hx) (h2 : DR W (.v (.sl t) l') v []) : DR W (.v (.rw el t) l') v hx := by
  obtain ⟨cs, t1, e1, r1⟩ := h1
  obtain ⟨cs2, t2, e2, r2⟩ := h2
  have k1 : cs = [v] := by
    obtain ⟨A, cc, css, q, _⟩ := id r1
    subst q
    rw [e1]; rfl
  have k2 : cs2 = [v] := by
    obtain ⟨A, cc, css, q, _⟩ := id r2
    subst q
    rw [e2]; rfl
  subst k1 k2
  exact ⟨[v], t1, rfl, sl_rw r1 r2⟩
theorem raise_ok {W : Wit} {s el : Nat} {t : Ty} {E E' : List (Nat × D)} {e : Env} (h : raiseE s el t E = some E') (he : EnvR W E e []) {l0 : List t.den} {v : Value} {hx : List Chunk} (hv : DR W (.v (.rw el t) l0) v hx) (hs : ∀ u, Look e s u → u = v) :
    ∃ hs', EnvR W E' (putl e s v) hs' ∧ Sub hx hs' := by
  unfold raiseE at h
  split at h
  case h_2 => cases h
  case h_1 t' l' hl =>
  split at h
  case isFalse => cases h
  case isTrue ht =>
  subst ht
  injection h with h
  subst h
  obtain ⟨u, h1, r, k1, k2, k3⟩ := he.look hl
  have hu := hs u k1
  subst hu
  have hn : h1 = [] := by
    have := k3.length_eq
    simp only [List.length_nil, List.length_append] at this
    exact List.length_eq_zero_iff.1 (by omega)
  subst hn
  obtain ⟨hs', g1, g2⟩ := he.put (k := s) (dr_raise hv k2)
  exact ⟨hs', g1, by simpa using g2⟩
theorem mvB_spec {s s0 : Nat} {o : Oper} (h : mvB s s0 o = true) : o.dst = some s ∧ o.guard = none ∧ ∃ ty pos af gd, o = ⟨some s, .move (.tmp s0), ty, pos, af, gd⟩ := by
  obtain ⟨dst, op, ty, pos, af, gd⟩ := o
  unfold mvB at h
  split at h
  · rename_i d t hd hop
    simp only at hd hop
    subst hd hop
    simp only [Bool.and_eq_true] at h
    have h1 := Nat.eq_of_beq_eq_true h.1.1
    have h2 := Nat.eq_of_beq_eq_true h.1.2
    subst h1 h2
    exact ⟨rfl, by simpa using h.2, _, _, _, _, rfl⟩
  · cases h
theorem hvB_spec {d s : Nat} {ops : Array Oper} {o : Oper} (h : hvB c d s ops o = true) : o.dst = some d ∧ o.guard = none ∧ s ∈ o.looksAt ops ∧ qB c o = false ∧ copyB o = false := by
  unfold hvB at h
  split at h
  · rename_i k hk
    simp only [Bool.and_eq_true] at h
    have h1 := Nat.eq_of_beq_eq_true h.1
    subst h1
    exact ⟨hk, by simpa using h.2.1, mem_of h.2.2.1, by simpa using h.2.2.2.1, by simpa using h.2.2.2.2⟩
  · cases h
theorem souphR_ok {R : Type} {k : St → Option R} {r : R} {S : St} (hm : P.follows .mixedOrders = true) (hc : CtxOk P G c) (hn : c.n = N) {id n d s0 : Nat} {l : List Oper} (h : souphR c n d s0 l S k = some r) {K : Act → Prop} (hK : ∀ o ∈ l, ∀ v a, K a → K (a.put o.dst v)) {Q : Exit → Act → World → Prop}
    (hQ : ∀ S', k S' = some r → ∀ a w, At N C G S' a w → K a → Q .normal a w) {a : Act} {w : World} (hat : At N C G S a w) (ha : K a) : (Code.region id l.toArray true).wp P Q a w := by
  unfold souphR at h
  split at h
  case h_2 => cases h
  case h_1 s el t el' t' l0 hhv hl0 =>
  split at h
  case isFalse => cases h
  case isTrue het =>
  subst het
  cases hbe : Nat.beq el' el with
  | false => rw [hbe] at h; cases h
  | true =>
  rw [hbe, cond_true] at h
  have := Nat.eq_of_beq_eq_true hbe
  subst this
  cases hB : souphB c n d s s0 l S.objs with
  | false => rw [hB] at h; cases h
  | true =>
  rw [hB, cond_true] at h
  unfold souphB at hB
  simp only [Bool.and_eq_true] at hB
  obtain ⟨⟨⟨⟨hB1, hB2⟩, hB3⟩, hB4⟩, hB5, hB6, hB7⟩ := hB
  have hF := soupOk2_spec hB1
  have hle := hF.le
  have hdist := distB_ok hB2
  have memT : ∀ (i : Nat) (o : Oper), i < n → l[i]? = some o → o ∈ l.take n := fun i o hi ho => List.mem_of_getElem? (by rw [List.getElem?_take_of_lt hi]; exact ho)
  have hall : ∀ (i : Nat) (o : Oper) (k : Nat), i < n → l[i]? = some o → o.dst = some k → k ≠ s0 ∧ (k = s → mvB s s0 o = true) ∧ (hvB c d s l.toArray o = true ∨ hvy c k = none) := fun i o k hi ho hk => by
    have h1 := List.all_eq_true.1 hB4 o (memT i o hi ho)
    rw [hk] at h1
    simp only [Bool.and_eq_true, Bool.or_eq_true, Bool.not_eq_true'] at h1
    obtain ⟨h2, h3, h4⟩ := h1
    refine ⟨beq_ne h2, fun e => ?_, ?_⟩
    · subst e
      rcases h3 with h3 | h3
      · rw [Nat.beq_refl] at h3; cases h3
      · exact h3
    · rcases h4 with h4 | h4
      · exact .inl h4
      · exact .inr (by simpa using h4)
  have idx : ∀ (p : Oper → Bool), (l.take n).any p = true → ∃ i o, i < n ∧ l[i]? = some o ∧ p o = true := fun p hp => by
    obtain ⟨o, ho, hpo⟩ := List.any_eq_true.1 hp
    obtain ⟨i, hi⟩ := List.getElem?_of_mem ho
    have hlt := (List.getElem?_eq_some_iff.1 hi).1
    have hin : i < n := by simp at hlt; omega
    exact ⟨i, o, hin, by rw [List.getElem?_take_of_lt hin] at hi; exact hi, hpo⟩
  obtain ⟨jm, om, hjm, hom, hmv⟩ := idx _ hB5
  obtain ⟨jh, oh', hjh, hoh, hhvb⟩ := idx _ hB6
  obtain ⟨mv1, mv2, _⟩ := mvB_spec hmv
  obtain ⟨hv1, hv2, hv3, hv4, hv5⟩ := hvB_spec hhvb
  obtain ⟨xs, e1, e2, e3⟩ := soupE3_ok (l.take n) _ _ h
  have htl : (l.take n).length = n := by simp; omega
  obtain ⟨W, e, eh, oh, q1, q2, q3⟩ := hat
  have hraw : S.raw (.tmp s0) = .v (.rw el' t') l0 := by simp only [St.raw, hl0]
  obtain ⟨v, hx, eh', sp1, sp2, sp3, sp4⟩ := strip_ok q1 hraw (by intro e; cases e)
  have hv0 : a.tmps.getD s0 undef = v := by
    cases sp1 with
    | t hlk => exact q2.look hlk
  obtain ⟨hs1, g1, g2, _⟩ := strips_ok (l.take n) _ _ sp3.env
  obtain ⟨g3, g4⟩ := killL_ok (ks := eks c (l.take n)) g1
  have hobjs : (S.strip (.tmp s0)).objs = S.objs := by
    simp only [St.strip, hl0, St.put]
  have hobs : ObR W S.objs oh := q1.obs
  have hb2 : Hb C w (oh ++ (hx ++ hs1)) (Inv G W.φ) := by
    refine Sub.hb ?_ q3
    refine (Sub.app sp4 (Sub.refl oh)).trans ?_
    rw [List.append_assoc]
    refine (Sub.app (Sub.refl hx) (Sub.app g2 (Sub.refl oh))).trans ?_
    rw [← List.append_assoc]
    exact Sub.perm List.perm_append_comm
  have hS : Soup c l n (eks c (l.take n)) S.objs (killL (eks c (l.take n)) (strips (l.take n) (S.strip (.tmp s0)).env)) xs := by
    refine ⟨hF.le, by rw [e1, htl], hdist, fun i o d hi ho hd hq => ?_, g4, fun p hp => ?_, fun i o x ob hi ho hx => ?_⟩
    · refine mem_contains (List.mem_filterMap.2 ⟨o, memT i o hi ho, ?_⟩)
      rw [hq]; exact hd
    · have := List.all_eq_true.1 hB3 p hp
      simpa using this
    · have h5 := e3 i o x ob (by rw [List.getElem?_take_of_lt hi]; exact ho) hx
      rw [List.take_take, Nat.min_eq_left (by omega)] at h5
      exact h5
  have hbase : ∀ s d, look (killL (eks c (l.take n)) (strips (l.take n) (S.strip (.tmp s0)).env)) s = some d → ∃ h, DR W d (a.tmps.getD s undef) h := fun s d hl => by
    obtain ⟨v, h1, r1, b1, b2, _⟩ := g3.look hl
    exact ⟨h1, by rw [q2.look b1]; exact b2⟩
  -- what is left aside
  have hrest : ∀ L : Nat → Bool, ∃ h0, h0 = (bif L jh then hs1 else hx ++ hs1) := fun L => ⟨_, rfl⟩
  have hput : ∀ (a' : Act) (v' : Value) (o : Oper) (i : Nat), i < n → l[i]? = some o → i ≠ jm → (a'.put o.dst v').tmps.getD s undef = a'.tmps.getD s undef := fun a' v' o i hi ho hne => by
    have hd : o.dst ≠ some s := (hdist i jm o om s hi hjm ho hom hne mv1).1
    cases hdo : o.dst with
    | none => rfl
    | some k =>
      have hks : k ≠ s := fun e => hd (by rw [hdo, e])
      simp only [Act.put]
      rw [Array.getD_eq_getD_getElem?, Array.getD_eq_getD_getElem?, Array.getElem?_setIfInBounds_ne hks]
  have other : ∀ (L : Nat → Bool) (i : Nat) (o : Oper), l.toArray[i]? = some o → i < n → L i = false → (∀ x ∈ o.after, Region.binds .any x = true → L x.on = true) → ∀ (a' : Act) (w' : World), SInv3 C G N l n (eks c (l.take n)) xs W (oh ++ (bif L jh then hs1 else hx ++ hs1)) (fun s => a.tmps.getD s undef) K L a' w' → (L jm = true → a'.tmps.getD s undef = v) → i ≠ jh →
      ∃ d1 x ob W' hf, o.dst = some d1 ∧ ((Region.wanted o (yielded l.toArray a'.tmps) = true ∧ LRun3 P C G W' ((List.range n).flatMap hf ++ (oh ++ (bif L jh then hs1 else hx ++ hs1))) (fun j => j = d1 ∧ mem d1 (eks c (l.take n)) = true) o d1 x ob a' w') ∨ (Region.wanted o (yielded l.toArray a'.tmps) = false ∧ Fin C G W' ((List.range n).flatMap hf ++ (oh ++ (bif L jh then hs1 else hx ++ hs1))) (fun j => j = d1 ∧ mem d1 (eks c (l.take n)) = true) d1 x ob undef w')) ∧
        (∀ v1 w1, (mvB s s0 o = true → v1 = v) → Fin C G W' ((List.range n).flatMap hf ++ (oh ++ (bif L jh then hs1 else hx ++ hs1))) (fun j => j = d1 ∧ mem d1 (eks c (l.take n)) = true) d1 x ob v1 w1 → (SInv3 C G N l n (eks c (l.take n)) xs W (oh ++ (bif (L jh || Nat.beq jh i) then hs1 else hx ++ hs1)) (fun s => a.tmps.getD s undef) K (fun j => L j || Nat.beq j i) (a'.put o.dst v1) w1 ∧ ((L jm || Nat.beq jm i) = true → (a'.put o.dst v1).tmps.getD s undef = v))) ∧ a'.tmps.getD s0 undef = v := by
    intro L i o ho hi hLi hdeps a' w' hI hs hih
    have ho' : l[i]? = some o := by simpa using ho
    have hLj : (L jh || Nat.beq jh i) = L jh := by
      cases hb : Nat.beq jh i with
      | false => rw [Bool.or_false]
      | true => exact absurd (Nat.eq_of_beq_eq_true hb).symm hih
    have hno : ∀ d1, o.dst = some d1 → hvy c d1 = none := fun d1 hd1 => by
      rcases (hall i o d1 hi ho' hd1).2.2 with h9 | h9
      · exact absurd (hvB_spec h9).1 (hdist i jh o oh' d hi hjh ho' hoh hih hv1).1
      · exact h9
    obtain ⟨d1, x, ob, W', hf, b1, b2, b3⟩ := soup_step3 hc hn hS (Like.refl _) hobs q1.nd hbase hK ho hi hLi hdeps rfl hno hI
    have post : ∀ v1 w1, (mvB s s0 o = true → v1 = v) → Fin C G W' ((List.range n).flatMap hf ++ (oh ++ (bif L jh then hs1 else hx ++ hs1))) (fun j => j = d1 ∧ mem d1 (eks c (l.take n)) = true) d1 x ob v1 w1 → (SInv3 C G N l n (eks c (l.take n)) xs W (oh ++ (bif (L jh || Nat.beq jh i) then hs1 else hx ++ hs1)) (fun s => a.tmps.getD s undef) K (fun j => L j || Nat.beq j i) (a'.put o.dst v1) w1 ∧ ((L jm || Nat.beq jm i) = true → (a'.put o.dst v1).tmps.getD s undef = v)) := by
      intro v1 w1 hmv1 hfin
      rw [hLj]
      refine ⟨b3 v1 w1 hfin, fun hL => ?_⟩
      by_cases him : i = jm
      · subst him
        have : o = om := Option.some.inj (ho'.symm.trans hom)
        subst this
        rw [hmv1 hmv, mv1]
        have hsN : s < a'.tmps.size := by
          rw [hI.size, ← hn]
          obtain ⟨⟨x2, ob2⟩, hx2⟩ : ∃ x, xs[i]? = some x := ⟨_, List.getElem?_eq_getElem (by have := hS.len; omega)⟩
          obtain ⟨d2, hd2, hdn2, _⟩ := hS.at_ i o x2 ob2 hi ho' hx2
          have : d2 = s := Option.some.inj (hd2.symm.trans mv1)
          subst this
          exact blt_ok hdn2
        simp [Act.put, hsN]
      · rw [hput a' v1 o i hi ho' him]
        refine hs ?_
        rw [Bool.or_eq_true] at hL
        rcases hL with hL | hL
        · exact hL
        · exact absurd (Nat.eq_of_beq_eq_true hL).symm him
    have hold : a'.tmps.getD s0 undef = v := by
      rw [hI.old s0 fun i2 o2 hi2 _ ho2 hd2 => (hall i2 o2 s0 hi2 ho2 hd2).1 rfl]
      exact hv0
    exact ⟨d1, x, ob, W', hf, b1, b2, post, hold⟩
  refine soup_ok2 hm hF (fun L a' w' => SInv3 C G N l n (eks c (l.take n)) xs W (oh ++ (bif L jh then hs1 else hx ++ hs1)) (fun s => a.tmps.getD s undef) K L a' w' ∧ (L jm = true → a'.tmps.getD s undef = v)) ?_ ?_ ?_ ?_ a w ?_
  · rintro L L' a' w' hLL ⟨hI, hs⟩
    rw [← hLL jh hjh, ← hLL jm hjm]
    refine ⟨⟨fun j o ho hj hL x hx hb => ?_, hI.size, hI.defers, hI.k, ?_, fun s hs => hI.old s fun i o hi hL ho => hs i o hi (by rw [← hLL i hi]; exact hL) ho⟩, hs⟩
    · have h6 := hI.closed j o ho hj (by rw [hLL j hj]; exact hL) x hx hb
      have := hF.edge j o ho x hx hb
      rw [← hLL x.on (by omega)]; exact h6
    · obtain ⟨W', hf, m1, m2, m3, m4⟩ := hI.mem
      refine ⟨W', fun i => if i < n then hf i else [], m1, ?_, fun i hi => ?_, fun i o x ob d hi hL ho hx hd => ?_⟩
      · have : (List.range n).flatMap (fun i => if i < n then hf i else []) = (List.range n).flatMap hf := by
          rw [List.flatMap_def, List.flatMap_def]
          congr 1
          exact List.map_congr_left fun i hi => if_pos (List.mem_range.1 hi)
        rw [this]; exact m2
      · by_cases hin : i < n
        · show (if i < n then hf i else []) = []
          rw [if_pos hin]; exact m3 i (by rw [hLL i hin]; exact hi)
        · exact if_neg hin
      · obtain ⟨h1, h2, b1, b2⟩ := m4 i o x ob d hi (by rw [hLL i hi]; exact hL) ho hx hd
        exact ⟨h1, h2, by show (if i < n then hf i else []) = _; rw [if_pos hi]; exact b1, b2⟩
  · rintro Q' L i o ho hi hLi hdeps a' w' ⟨hI, hs⟩
    have ho' : l[i]? = some o := by simpa using ho
    by_cases hih : i = jh
    · -- the call that takes the right
      subst hih
      have : o = oh' := Option.some.inj (ho'.symm.trans hoh)
      subst this
      rw [hLi, cond_false] at hI
      have hLm : L jm = true := by
        have hne : i ≠ jm := fun e => by
          subst e
          have : o = om := Option.some.inj (ho'.symm.trans hom)
          subst this
          have hsd : s = d := Option.some.inj (mv1.symm.trans hv1)
          obtain ⟨ty, pos, af, gd, hom'⟩ := (mvB_spec hmv).2.2
          rw [hom'] at hv3
          have hs0 : s ≠ s0 := (hall i o s hi ho' mv1).1
          simp [Oper.looksAt, Op.operands] at hv3
          simp_all
        rcases (hdist i jm o om s hi hjm ho' hom hne mv1).2 hv3 with ⟨_, hw⟩ | ⟨hij, hw⟩
        · obtain ⟨o2, ho2, y, hy, hby, hon⟩ := Region.waitsFor_spec hw
          have : o2 = o := Option.some.inj (ho2.symm.trans ho)
          subst this
          rw [← hon]; exact hdeps y hy hby
        · obtain ⟨o2, ho2, y, hy, hby, hon⟩ := Region.waitsFor_spec hw
          have : o2 = om := Option.some.inj (ho2.symm.trans (by simpa using hom))
          subst this
          -- the move would wait for the call
          exfalso
          have h9 := List.all_eq_true.1 hB7 i (List.mem_range.2 hi)
          rw [ho'] at h9
          simp only [hhvb, Bool.not_true, Bool.false_or] at h9
          obtain ⟨o3, ho3, hm3⟩ := List.any_eq_true.1 h9
          obtain ⟨j3, hj3⟩ := List.getElem?_of_mem ho3
          have hlt := (List.getElem?_eq_some_iff.1 hj3).1
          have hj3i : j3 < i := by simp at hlt; omega
          have hj3' : l[j3]? = some o3 := by rw [List.getElem?_take_of_lt hj3i] at hj3; exact hj3
          exact (hdist j3 jm o3 o2 s (by omega) hjm hj3' hom (by omega) mv1).1 (mvB_spec hm3).1
      have hsv := hs hLm
      have hlen := hS.len
      obtain ⟨⟨x, ob⟩, hx'⟩ : ∃ x, xs[i]? = some x := ⟨_, List.getElem?_eq_getElem (by omega)⟩
      obtain ⟨d', hd', hdn, hg⟩ := hS.at_ i o x ob hi ho' hx'
      have hdd : d' = d := Option.some.inj (hd'.symm.trans hv1)
      subst hdd
      obtain ⟨W', hf, m1, m2, m3, m4⟩ := hI.mem
      have henv := soup_env hS m1 hbase hI.closed (fun i o x ob d q1 q2 q3 q4 q5 => let ⟨h1, h2, _, h3, _⟩ := m4 i o x ob d q1 q2 q3 q4 q5; ⟨h1, h3⟩) hI.old hi ho hLi hdeps
      have hcut := cut_env (W := W') (S := ⟨putsE (killL (eks c (l.take n)) (strips (l.take n) (S.strip (.tmp s0)).env)) (l.take i) (xs.take i), []⟩) (f := fun s => a'.tmps.getD s undef) (o.looksAt l.toArray) henv
      have hkeys : (((cutE ⟨putsE (killL (eks c (l.take n)) (strips (l.take n) (S.strip (.tmp s0)).env)) (l.take i) (xs.take i), []⟩ (o.looksAt l.toArray)).map fun p => (p.1, a'.tmps.getD p.1 undef)).map (·.1)).Nodup := by
        rw [List.map_map]; exact cutE_nd _ _
      have hval : ∀ p ∈ ((cutE ⟨putsE (killL (eks c (l.take n)) (strips (l.take n) (S.strip (.tmp s0)).env)) (l.take i) (xs.take i), []⟩ (o.looksAt l.toArray)).map fun p => (p.1, a'.tmps.getD p.1 undef)), a'.tmps.getD p.1 undef = p.2 := fun p hp => by
        obtain ⟨q, _, rfl⟩ := List.mem_map.1 hp
        rfl
      cases hg with
      | @on _ _ j s' want b g0 => rw [hv2] at g0; cases g0
      | @off j s' want b g0 => rw [hv2] at g0; cases g0
      | @un j s' want g0 => rw [hv2] at g0; cases g0
      | run g0 h1 =>
      cases h1 with
      | ld _ _ hh => rw [hhv] at hh; cases hh
      | q _ _ hh => rw [hhv] at hh; cases hh
      | e _ _ _ _ hh => rw [hhv] at hh; cases hh
      | n _ _ _ _ _ _ hh => rw [hhv] at hh; cases hh
      | @hv _ S' E' s2 el2 t2 k1 k2 k3 k4 k5 =>
      have hk := Option.some.inj (k1.symm.trans hhv)
      injection hk with hk1 hk
      injection hk with hk2 hk3
      subst hk1 hk2 hk3
      have sp2' : DR W' (.v (.rw el2 t2) l0) v hx := sp2.wle m1 fun j hj => by cases hj
      obtain ⟨hs', r1, r2⟩ := raise_ok k2 hcut sp2' (fun u hu => (hval _ hu.mem).symm.trans hsv)
      have hfr : Fr a' N (putl ((cutE ⟨putsE (killL (eks c (l.take n)) (strips (l.take n) (S.strip (.tmp s0)).env)) (l.take i) (xs.take i), []⟩ (o.looksAt l.toArray)).map fun p => (p.1, a'.tmps.getD p.1 undef)) s2 v) := by
        refine ⟨hI.size, hI.defers, fun p hp => ?_, ?_⟩
        · rcases putl_pair p hp with h5 | h5
          · rw [h5]; exact hsv
          · exact hval p h5
        · rw [putl_keys]
          split
          · exact hkeys
          · rename_i hno
            exact List.nodup_append.2 ⟨hkeys, List.nodup_cons.2 ⟨fun h => (by cases h), List.nodup_nil⟩, fun y hy z hz he => hno (by rw [List.mem_singleton] at hz; rw [← hz, ← he]; exact hy)⟩
      have hbx : Hb C w' (hs' ++ ((List.range n).flatMap hf ++ (oh ++ hs1))) (Inv G W'.φ) := by
        refine Sub.hb ?_ m2
        have p1 : ((List.range n).flatMap hf ++ (oh ++ (hx ++ hs1))).Perm (hx ++ ((List.range n).flatMap hf ++ (oh ++ hs1))) := by
          have a1 : (oh ++ (hx ++ hs1)).Perm (hx ++ (oh ++ hs1)) := List.perm_append_comm_assoc _ _ _
          exact (a1.append_left _).trans (List.perm_append_comm_assoc _ _ _)
        exact (Sub.perm p1).trans (Sub.app r2 (Sub.refl _))
      have hrun := (run_e (d := d') (x := x) (ob := none) hc hn r1 hfr hbx hd' (hn ▸ blt_ok hdn) (fun j hj => by rw [fzB_key k5] at hj; cases hj) k4 (fun b hb => by cases hb) k3).imp (V := fun j => j = d' ∧ mem d' (eks c (l.take n)) = true) (fun j hj => ⟨hj, hS.eks i o d' hi ho' hd' hv4⟩) (List.Perm.refl _)
      have fin : ∀ v1 w1, Fin C G W' ((List.range n).flatMap hf ++ (oh ++ hs1)) (fun j => j = d' ∧ mem d' (eks c (l.take n)) = true) d' x none v1 w1 → (SInv3 C G N l n (eks c (l.take n)) xs W (oh ++ (bif (fun j => L j || Nat.beq j i) i then hs1 else hx ++ hs1)) (fun s => a.tmps.getD s undef) K (fun j => L j || Nat.beq j i) (a'.put o.dst v1) w1 ∧ ((L jm || Nat.beq jm i) = true → (a'.put o.dst v1).tmps.getD s2 undef = v)) := by
        rintro v1 w1 ⟨W2, c1, c2, c3, c4, c5, c6⟩
        have hbi : (bif (fun j => L j || Nat.beq j i) i then hs1 else hx ++ hs1) = hs1 := by
          show (bif (L i || Nat.beq i i) then hs1 else hx ++ hs1) = hs1
          rw [Nat.beq_refl, Bool.or_true]; rfl
        rw [hbi]
        refine ⟨SInv3.put hS (Like.refl _) hn hK ho hi hLi hd' hdn hx' hdeps hI.closed hI.size hI.defers hI.k m1 m3 m4 hI.old c3 c4 c5 c6, fun _ => ?_⟩
        rw [hput a' v1 o i hi ho' (fun e => by subst e; rw [hLi] at hLm; cases hLm)]
        exact hsv
      have hw : Region.wanted o (yielded l.toArray a'.tmps) = true := by simp [Region.wanted, hv2]
      unfold wpOp
      rw [ho]
      simp only [hw, if_true]
      refine .inl ?_
      unfold Oper.wp
      unfold LRun3 at hrun
      revert hrun
      generalize (execOp a'.eval o).run P w' = q
      intro b5
      cases q with
      | halt y w2 => exact b5.elim
      | ok y w2 =>
        cases y <;> first | exact b5.elim | skip
        · exact fin _ _ b5
        · exact fin _ _ b5
        · exact Calls.mono b5 fun y w3 ⟨v1, hy1, hy2⟩ => by
            subst hy1
            exact fin _ _ hy2
    · obtain ⟨d1, x, ob, W', hf, b1, b2, post, hold⟩ := other L i o ho hi hLi hdeps a' w' hI hs hih
      unfold wpOp
      rw [ho]
      rcases b2 with ⟨b4, b5⟩ | ⟨b4, b5⟩
      · simp only [b4, if_true]
        refine .inl ?_
        by_cases hmo : mvB s s0 o = true
        · obtain ⟨ty, pos, af, gd, hoe⟩ := (mvB_spec hmo).2.2
          have hex : (execOp a'.eval o).run P w' = .ok (.value v) w' := by
            rw [hoe]
            simp only [execOp, Sem.run_pure]
            have : a'.eval (.tmp s0) = a'.tmps.getD s0 undef := rfl
            rw [this, hold]
          unfold Oper.wp
          unfold LRun3 at b5
          rw [hex] at b5 ⊢
          exact post _ _ (fun _ => rfl) b5
        · unfold Oper.wp
          unfold LRun3 at b5
          revert b5
          generalize (execOp a'.eval o).run P w' = q
          intro b5
          cases q with
          | halt y w2 => exact b5.elim
          | ok y w2 =>
            cases y <;> first | exact b5.elim | skip
            · exact post _ _ (fun h => absurd h hmo) b5
            · exact post _ _ (fun h => absurd h hmo) b5
            · exact Calls.mono b5 fun y w3 ⟨v1, hy1, hy2⟩ => by
                subst hy1
                exact post _ _ (fun h => absurd h hmo) hy2
      · simp only [b4]
        refine post _ _ (fun h => ?_) b5
        have hw : Region.wanted o (yielded l.toArray a'.tmps) = true := by simp [Region.wanted, (mvB_spec h).2.1]
        rw [hw] at b4
        cases b4
  · rintro hnl L i o ho hi hLi hcp hgd hdeps a' w' ⟨hI, hs⟩
    have ho' : l[i]? = some o := by simpa using ho
    have hih : i ≠ jh := fun e => by
      subst e
      have : o = oh' := Option.some.inj (ho'.symm.trans hoh)
      subst this
      rw [hv5] at hcp
      cases hcp
    obtain ⟨d1, x, ob, W', hf, b1, b2, post, hold⟩ := other L i o ho hi hLi hdeps a' w' hI hs hih
    have hw : Region.wanted o (yielded l.toArray a'.tmps) = true := by simp [Region.wanted, hgd]
    rcases b2 with ⟨b4, b5⟩ | ⟨b4, b5⟩
    · unfold LRun3 at b5
      cases hq : (execOp a'.eval o).run P w' with
      | halt y w2 => rw [hq] at b5; exact b5.elim
      | ok y w2 =>
        rw [hq] at b5
        obtain ⟨v1, rfl⟩ := copy_val hcp hq
        have hall := copy_free hcp hq
        have e6 := (hall w').symm.trans hq
        injection e6 with _ e6
        subst e6
        refine ⟨v1, .inl ⟨hw, hall⟩, post _ _ (fun hmo => ?_) b5⟩
        obtain ⟨ty, pos, af, gd, hoe⟩ := (mvB_spec hmo).2.2
        rw [hoe] at hq
        simp only [execOp, Sem.run_pure] at hq
        injection hq with hq _
        injection hq with hq
        rw [← hq]
        exact hold
    · rw [hw] at b4; cases b4
  · rintro Q' hQQ a' w' ⟨hI, _⟩
    have hI : SInv3 C G N l n (eks c (l.take n)) xs W (oh ++ hs1) (fun s => a.tmps.getD s undef) K (fun _ => true) a' w' := hI
    have hA := soup_end hS (Like.refl _) hobs q1.nd g3 q2 (fun W' o ho d hd => killL_nil (strips_at (l.take n) _ o ho d hd)) (fun _ => rfl) (fun _ _ => rfl) hI
    obtain ⟨S', c1, c2⟩ := convE_ok (N := N) (C := C) (G := G) _ _ _ e2
    exact opsE_ok hc hn (l.drop n) S' c1 (fun o ho => hK o (List.mem_of_mem_drop ho)) (fun S2 h2 a2 w2 hA2 hK2 => hQQ a2 w2 (hQ S2 h2 a2 w2 hA2 hK2)) a' w' (c2 a' w' hA) hI.k
  · refine ⟨?_, fun h => by cases h⟩
    show SInv3 C G N l n (eks c (l.take n)) xs W (oh ++ (hx ++ hs1)) (fun s => a.tmps.getD s undef) K (fun _ => false) a _
    refine ⟨fun _ _ _ _ h => (by cases h), q2.size, q2.defers, ha, ⟨W, fun _ => [], WLe.refl W, ?_, fun _ _ => rfl, fun _ _ _ _ _ _ h => (by cases h)⟩, fun _ _ => rfl⟩
    have : (List.range n).flatMap (fun _ => ([] : List Chunk)) = [] := by simp
    rw [this, List.nil_append]
    exact hb2.drew
end
end Go.Lf
/-
  A region with a soup and stores to what it made.
-/
namespace Go.Lf
open Go Go.Eng
section
variable {P : Program} {N : Nat} {C : Cx} {G : World → Prop} {c : Ctx}
theorem nwO_look : ∀ (l : List Oper) (xs : List (D × Option Ob)) (s : Nat) (b : Ob), look (nwO l xs) s = some b → ∃ (j : Nat) (o : Oper) (x : D), l[j]? = some o ∧ xs[j]? = some (x, some b) ∧ o.dst = some s
  | [], xs, s, b, h => by unfold nwO at h; cases xs <;> cases h
  | _ :: _, [], s, b, h => by cases h
  | o :: l, (x, ob) :: xs, s, b, h => by
    have up : (∃ (j : Nat) (o : Oper) (x : D), l[j]? = some o ∧ xs[j]? = some (x, some b) ∧ o.dst = some s) → ∃ (j : Nat) (o' : Oper) (x' : D), (o :: l)[j]? = some o' ∧ ((x, ob) :: xs)[j]? = some (x', some b) ∧ o'.dst = some s := fun ⟨j, o', x', h1, h2, h3⟩ => ⟨j + 1, o', x', by simpa using h1, by simpa using h2, h3⟩
    have h : look (match o.dst, ob with | some d, some b => (d, b) :: nwO l xs | _, _ => nwO l xs) s = some b := h
    cases hd : o.dst with
    | none => rw [hd] at h; exact up (nwO_look l xs s b h)
    | some d =>
      rw [hd] at h
      cases ob with
      | none => exact up (nwO_look l xs s b h)
      | some b0 =>
        have h : look ((d, b0) :: nwO l xs) s = some b := h
        rw [look_cons] at h
        split at h
        · rename_i hds
          injection h with h
          subst h hds
          exact ⟨0, o, x, rfl, rfl, hd⟩
        · exact up (nwO_look l xs s b h)
/-- what the stores come to -/
theorem putE_ok {E : List (Nat × D)} {nw : List (Nat × Ob)} : ∀ (l : List Oper) (st : List (Nat × Ob)), putE c E nw l = some st → st.length = l.length ∧ ∀ (i : Nat) (o : Oper), l[i]? = some o → ∃ (t s : Nat) (x : Operand) (ob : Ob) (ti : TyI) (tb : Nat) (y : ti.ty.den), o.op = .store t (.tmp s) x ∧ look E s = some (.ref s [] 0) ∧ look nw s = some ob ∧ look c.ty t = some ti ∧ ob.tid = some tb ∧ ob.t.er = ti.ty ∧ asTy ti.ty (valD E x) = some y ∧ st[i]? = some (s, ⟨some tb, ti.ty, y⟩)
  | [], st, h => by
    have : [] = st := by simpa [putE] using h
    subst this
    exact ⟨rfl, fun i o ho => by simp at ho⟩
  | o :: r, st, h => by
    unfold putE at h
    split at h
    case h_2 => cases h
    case h_1 t s x hop =>
    split at h
    case h_2 => cases h
    case h_1 j ob ti h1 h2 h3 =>
    cases hj : Nat.beq j s with
    | false => rw [hj] at h; cases h
    | true =>
    rw [hj, cond_true] at h
    have hj := Nat.eq_of_beq_eq_true hj
    subst hj
    split at h
    case h_2 => cases h
    case h_1 tb htb =>
    split at h
    case h_2 => cases h
    case h_1 y hy =>
    split at h
    case isFalse => cases h
    case isTrue he =>
    split at h
    case h_2 => cases h
    case h_1 st' hst =>
    injection h with h
    subst h
    obtain ⟨g1, g2⟩ := putE_ok r st' hst
    refine ⟨by simp [g1], fun i o' ho' => ?_⟩
    cases i with
    | zero =>
      have : o = o' := by simpa using ho'
      subst this
      exact ⟨t, j, x, ob, ti, tb, y, hop, h1, h2, h3, htb, he, hy, rfl⟩
    | succ i => simpa using g2 i o' (by simpa using ho')
theorem nodupO_ok : ∀ {l : List (Option Nat)}, nodupO l = true → l.Nodup
  | [], _ => List.nodup_nil
  | none :: _, h => by cases h
  | some k :: r, h => by
    let F : Option Nat → Bool := fun x => match x with | some j => Nat.beq j k | none => false
    have h : (bif r.any F then false else nodupO r) = true := h
    cases hb : r.any F with
    | true => rw [hb] at h; cases h
    | false =>
      rw [hb, cond_false] at h
      refine List.nodup_cons.2 ⟨fun hm => ?_, nodupO_ok h⟩
      have : r.any F = true := List.any_eq_true.2 ⟨some k, hm, Nat.beq_refl k⟩
      rw [hb] at this; cases this
theorem asTy_topD {W : Wit} {t : Ty} {d : D} {y : t.den} {v : Value} {h : List Chunk} (ha : asTy t d = some y) (hd : DR W d v h) (hf : t = t.er) : t.top = true := by
  cases d with
  | v t' x' => obtain ⟨_, ht, _⟩ := hd; exact coe_top ha ht
  | nils => cases t <;> first | rfl | (simp [asTy] at ha; done) | (simp [Ty.er] at hf; done)
  | niI => cases t <;> first | rfl | (simp [asTy] at ha; done)
  | nilp => cases t <;> first | rfl | (simp [asTy] at ha; done)
  | fro t' x' => cases t <;> first | rfl | (simp [asTy] at ha; done)
  | _ => simp [asTy] at ha
structure PutForm (l : List Oper) (n : Nat) : Prop where
  nd : ((l.drop n).map stSlot).Nodup
  at_ : ∀ (i : Nat) (o : Oper), l[i]? = some o → n ≤ i → o.guard = none ∧ o.dst = none ∧ ∀ s ∈ o.looksAt l.toArray, ∃ (j : Nat) (oj : Oper), j < n ∧ l[j]? = some oj ∧ oj.dst = some s ∧ Region.waitsFor .any l.toArray i j = true
theorem putsB_ok {l : List Oper} {n : Nat} (h : putsB l n = true) : PutForm l n := by
  unfold putsB at h
  rw [Bool.and_eq_true] at h
  refine ⟨nodupO_ok h.1, fun i o ho hi => ?_⟩
  have hlt := (List.getElem?_eq_some_iff.1 ho).1
  have h1 := List.all_eq_true.1 h.2 i (List.mem_range.2 hlt)
  have h2 : Nat.blt i n = false := by
    cases hb : Nat.blt i n with
    | false => rfl
    | true => have := blt_ok hb; omega
  rw [h2, Bool.false_or, ho] at h1
  simp only [Bool.and_eq_true] at h1
  refine ⟨by simpa using h1.1.1, by simpa using h1.1.2, fun s hs => ?_⟩
  obtain ⟨j, hj, h4⟩ := List.any_eq_true.1 (List.all_eq_true.1 h1.2 s hs)
  have hj := List.mem_range.1 hj
  split at h4
  · rename_i oj hoj
    rw [Bool.and_eq_true] at h4
    obtain ⟨h5, h6⟩ := h4
    split at h5
    · rename_i d hd
      have := Nat.eq_of_beq_eq_true h5
      subst this
      exact ⟨j, oj, hj, hoj, hd, h6⟩
    · cases h5
  · cases h4
variable {l : List Oper} {n : Nat} {ks : List Nat} {O : List (Nat × Ob)} {E : List (Nat × D)} {xs : List (D × Option Ob)} {W : Wit} {hr oh h0 : List Chunk} {f0 : Nat → Value} {K : Act → Prop}
/-- one store -/
theorem store_step (hc : CtxOk P G c) (hS : Soup c l n ks O E xs) (hP : PutForm l n) {st : List (Nat × Ob)} (hst : putE c (putsE E (l.take n) xs) (nwO (l.take n) xs) (l.drop n) = some st)
    {L : Nat → Bool} {i : Nat} {o : Oper} (ho : l.toArray[i]? = some o) (hi : n ≤ i) (hLi : L i = false) (hdeps : ∀ x ∈ o.after, Region.binds .any x = true → L x.on = true) {a : Act} {w : World}
    (hI : SInv3 C G N l n ks (ysOf st n L (l.take n) xs) W hr f0 K L a w) :
    ∃ w', (execOp a.eval o).run P w = .ok .skip w' ∧ SInv3 C G N l n ks (ysOf st n (fun j => L j || Nat.beq j i) (l.take n) xs) W hr f0 K (fun j => L j || Nat.beq j i) a w' := by
  have ho' : l[i]? = some o := by simpa using ho
  have hlen := hS.len
  have hle := hS.le
  have htl : (l.take n).length = n := by simp; omega
  obtain ⟨hslen, hsat⟩ := putE_ok _ _ hst
  obtain ⟨m, rfl⟩ : ∃ m, i = n + m := ⟨i - n, by omega⟩
  have hom : (l.drop n)[m]? = some o := by rw [List.getElem?_drop]; exact ho'
  obtain ⟨t, s, x, ob, ti, tb, y, hop, hEs, hns, hti, htb, her, hy, hsm⟩ := hsat m o hom
  obtain ⟨hg, hdst, hwait⟩ := hP.at_ _ o ho' hi
  have hstn : (st.map (·.1)).Nodup := by
    have : st.map (fun p => some p.1) = (l.drop n).map stSlot := by
      refine List.ext_getElem? fun j => ?_
      rw [List.getElem?_map, List.getElem?_map]
      cases hj : (l.drop n)[j]? with
      | none =>
        have : st[j]? = none := List.getElem?_eq_none (by have := List.getElem?_eq_none_iff.1 hj; omega)
        rw [this]; rfl
      | some oj =>
        obtain ⟨t', s', x', ob', ti', tb', y', hop', _, _, _, _, _, _, hsm'⟩ := hsat j oj hj
        rw [hsm']
        show some (some s') = some (stSlot oj)
        unfold stSlot; rw [hop']
    have h2 := hP.nd
    rw [← this] at h2
    have h3 : (st.map fun p => some p.1) = (st.map (·.1)).map some := by rw [List.map_map]; rfl
    rw [h3] at h2
    exact (List.pairwise_map.1 h2).imp fun h e => h (by rw [e])
  obtain ⟨W', hf, m1, m2, m3, m4⟩ := hI.mem
  -- slots that the store looks at: written, and done
  have done : ∀ s' ∈ o.looksAt l.toArray, ∃ (k : Nat) (ok : Oper) (xk : D) (obk : Option Ob), k < n ∧ l[k]? = some ok ∧ ok.dst = some s' ∧ L k = true ∧ xs[k]? = some (xk, obk) ∧ look (putsE E (l.take n) xs) s' = some xk := fun s' hs' => by
    obtain ⟨k, ok, hk, hok, hkd, hw⟩ := hwait s' hs'
    obtain ⟨o2, ho2, z, hz, hzb, hon⟩ := Region.waitsFor_spec hw
    have : o2 = o := Option.some.inj (ho2.symm.trans ho)
    subst this
    have hLk : L k = true := by rw [← hon]; exact hdeps z hz hzb
    obtain ⟨⟨xk, obk⟩, hxk⟩ : ∃ y, xs[k]? = some y := ⟨_, List.getElem?_eq_getElem (by omega)⟩
    refine ⟨k, ok, xk, obk, hk, hok, hkd, hLk, hxk, ?_⟩
    have key : ∀ (l : List Oper) (xs : List (D × Option Ob)) (E : List (Nat × D)) (k : Nat) (ok : Oper) (xk : D) (obk : Option Ob), l[k]? = some ok → xs[k]? = some (xk, obk) → ok.dst = some s' → (∀ (j : Nat) (oj : Oper), l[j]? = some oj → j ≠ k → oj.dst ≠ some s') → look (putsE E l xs) s' = some xk := fun l => by
      induction l with
      | nil => intro xs E k ok xk obk h; simp at h
      | cons o1 r ih =>
        intro xs E k ok xk obk h1 h2 h3 h4
        cases xs with
        | nil => simp at h2
        | cons p q =>
          obtain ⟨x1, ob1⟩ := p
          have ep : putsE E (o1 :: r) ((x1, ob1) :: q) = match o1.dst with | some d => putsE (putl E d x1) r q | none => putsE E r q := rfl
          rw [ep]
          cases k with
          | zero =>
            have e1 : o1 = ok := by simpa using h1
            have e2 : (x1, ob1) = (xk, obk) := by simpa using h2
            subst e1
            injection e2 with e2 e3
            subst e2 e3
            rw [h3]
            have rest : ∀ (r : List Oper) (q : List (D × Option Ob)) (E : List (Nat × D)), (∀ (j : Nat) (oj : Oper), r[j]? = some oj → oj.dst ≠ some s') → look (putsE E r q) s' = look E s' := fun r => by
              induction r with
              | nil => intro q E _; cases q <;> rfl
              | cons o1 r ih2 =>
                intro q E hr
                cases q with
                | nil => rfl
                | cons p q =>
                  obtain ⟨x1, ob1⟩ := p
                  have ep : putsE E (o1 :: r) ((x1, ob1) :: q) = match o1.dst with | some d => putsE (putl E d x1) r q | none => putsE E r q := rfl
                  rw [ep]
                  have h5 := hr 0 o1 rfl
                  cases hd1 : o1.dst with
                  | none => exact ih2 q E fun j oj hj => hr (j + 1) oj (by simpa using hj)
                  | some d =>
                    simp only
                    rw [ih2 q _ fun j oj hj => hr (j + 1) oj (by simpa using hj)]
                    exact look_putl_ne fun e => h5 (by rw [hd1, e])
            simp only
            rw [rest r q _ fun j oj hj => h4 (j + 1) oj (by simpa using hj) (by omega)]
            exact look_putl _ _ _
          | succ k =>
            have h5 := ih q
            cases hd1 : o1.dst with
            | none => exact h5 _ k ok xk obk (by simpa using h1) (by simpa using h2) h3 fun j oj hj hjk => h4 (j + 1) oj (by simpa using hj) (by omega)
            | some d => exact h5 _ k ok xk obk (by simpa using h1) (by simpa using h2) h3 fun j oj hj hjk => h4 (j + 1) oj (by simpa using hj) (by omega)
    refine key (l.take n) xs E k ok xk obk (by rw [List.getElem?_take_of_lt hk]; exact hok) hxk hkd fun j oj hj hjk => ?_
    have hjn : j < n := by have := (List.getElem?_eq_some_iff.1 hj).1; omega
    rw [List.getElem?_take_of_lt hjn] at hj
    exact (hS.dist j k oj ok s' hjn hk hj hok hjk hkd).1
  have hlook : ∀ s', (∃ z, o.op = z ∧ (z = .store t (.tmp s) x) ∧ (s' = s ∨ x = .tmp s')) → s' ∈ o.looksAt l.toArray := fun s' ⟨z, hz, hz2, hs'⟩ => by
    have : o.op = .store t (.tmp s) x := hz.trans hz2
    obtain ⟨dst, op, ty, pos, af, gd⟩ := o
    simp only at this
    subst this
    have hg : gd = none := hg
    subst hg
    rcases hs' with rfl | rfl
    · simp [Oper.looksAt, Op.operands]
    · simp [Oper.looksAt, Op.operands]
  obtain ⟨k, ok, xk, obk, hk, hok, hkd, hLk, hxk, hEk⟩ := done s (hlook s ⟨_, rfl, hop, .inl rfl⟩)
  have hxr : xk = .ref s [] 0 := Option.some.inj (hEk.symm.trans hEs)
  subst hxr
  obtain ⟨k2, ok2, xk2, g1, g2, g3⟩ := nwO_look _ _ _ _ hns
  have hk2n : k2 < n := by have := (List.getElem?_eq_some_iff.1 g1).1; omega
  rw [List.getElem?_take_of_lt hk2n] at g1
  have hkk : k2 = k := Classical.byContradiction fun e => (hS.dist k2 k ok2 ok s hk2n hk g1 hok e hkd).1 g3
  subst hkk
  have hobk : obk = some ob := by
    have := Option.some.inj (g2.symm.trans hxk)
    injection this with _ h
    exact h.symm
  subst hobk
  have htk : ∀ (j : Nat) (oj : Oper), j < n → l[j]? = some oj → (l.take n)[j]? = some oj := fun j oj hj h => by rw [List.getElem?_take_of_lt hj]; exact h
  have hcur : curO st n L s (some ob) = some ob := curO_not fun j b hj => by
    have : j = m := by
      have h1 : (st.map (·.1))[j]? = some s := by rw [List.getElem?_map, hj]; rfl
      have h2 : (st.map (·.1))[m]? = some s := by rw [List.getElem?_map, hsm]; rfl
      exact (List.getElem?_inj (List.getElem?_eq_some_iff.1 h1).1 hstn).1 (h1.trans h2.symm)
    subst this
    exact hLi
  have hyk := ysOf_get st n L (htk k2 ok hk hok) hxk
  rw [hkd] at hyk
  simp only [hcur] at hyk
  obtain ⟨h1, h2, b1, b2, b3⟩ := m4 k2 ok _ _ s hk hLk hok hyk hkd
  obtain ⟨b2a, rfl⟩ := b2
  obtain ⟨hz, c1, c2⟩ := b3
  rw [htb] at c2
  -- the value
  have hval : ∃ cs, a.eval x = sv ti.ty cs ∧ Rp W'.φ ti.ty y cs [] ∧ ti.ty.top = true := by
    have hfz := (hc.ty _ _ hti).frz
    have fin : ∀ (d : D) (v : Value) (h : List Chunk), DR W' d v h → asTy ti.ty d = some y → a.eval x = v → ∃ cs, a.eval x = sv ti.ty cs ∧ Rp W'.φ ti.ty y cs [] ∧ ti.ty.top = true := fun d v h hd hyd hv => by
      obtain ⟨cs, h', q1, q2, _⟩ := asTy_ok hyd hd
      have := Rp.er_nil hfz q2
      subst this
      exact ⟨cs, hv.trans q1, q2, asTy_topD hyd hd hfz⟩
    cases x with
    | tmp s' =>
      obtain ⟨k3, ok3, xk3, obk3, r1, r2, r3, r4, r5, r6⟩ := done s' (hlook s' ⟨_, rfl, hop, .inr rfl⟩)
      have hy3 := ysOf_get st n L (htk k3 ok3 r1 r2) r5
      obtain ⟨h3, h4, _, r7, _⟩ := m4 k3 ok3 _ _ s' r1 r4 r2 hy3 r3
      refine fin xk3.peek _ _ (peek_any r7) ?_ rfl
      simp only [valD, r6] at hy
      exact hy
    | const v =>
      have hne : constD v ≠ .und := fun e => by simp only [valD] at hy; rw [e] at hy; simp [asTy] at hy
      exact fin (constD v) v [] (const_ok v hne) (by simpa only [valD] using hy) rfl
    | _ => simp [valD, asTy] at hy
  obtain ⟨cs, v1, v2, v3⟩ := hval
  have hpt : a.eval (.tmp s) = .pointer (some ⟨W'.adr s, 0, none⟩) := b2a
  -- the world
  have hfk : hf = upd (upd hf k2 []) k2 (hf k2) := by
    funext j; unfold upd; by_cases hj : j = k2
    · subst hj; simp
    · simp [hj]
  have hpm : ((List.range n).flatMap hf ++ hr).Perm (blk (W'.adr s) tb (W'.hd s) :: (hz ++ ((List.range n).flatMap (upd hf k2 []) ++ hr))) := by
    have p1 := flatMap_add (f := upd hf k2 []) (h := hf k2) List.nodup_range (List.mem_range.2 hk) (upd_self _ _ _)
    rw [← hfk] at p1
    refine (p1.append_right hr).trans ?_
    rw [b1, c2]
    simp
  have hb1 : Hb C w (blk (W'.adr s) tb ([] ++ W'.hd s ++ []) :: ((List.range n).flatMap (upd hf k2 []) ++ hr)) (Inv G W'.φ) := by
    rw [List.nil_append, List.append_nil]
    exact ((Sub.perm hpm).trans (Sub.cons (Sub.app (Sub.nil hz) (Sub.refl _)))).hb m2
  have hh := hb1.hp.hold _ List.mem_cons_self
  have hlen2 : (W'.hd s).length = cs.length := by rw [c1.len, v2.len, ← Ty.er_size ob.t, her]
  have hrun : (execOp a.eval o).run P w = .ok .skip (w.setRow (W'.adr s) ([] ++ cs ++ []).toArray) := by
    obtain ⟨dst, op, ty, pos, af, gd⟩ := o
    simp only at hop
    subst hop
    exact run_store (pre := []) (post := []) (by rw [v2.len]; exact (hc.ty _ _ hti).sz) hpt v1 (sv_one v3 v2) v2.one hh rfl hlen2
  have hb2 := hb1.turn (ext_setRow hh) (setRow_holds (l' := [] ++ cs ++ []) hh) (fun g hg => .inl ⟨hg, Nat.zero_le _⟩)
  have hmem : mem s ks = true := (hS.key hk hok hxk hkd).2 rfl
  have hWs : WLe (fun j => j = s) W' ⟨W'.φ, W'.adr, upd W'.hd s cs⟩ := ⟨Phi.le_refl _, fun j hj => ⟨rfl, if_neg hj⟩⟩
  have hbq : ∀ j, Nat.beq j (n + m) = true ↔ j = n + m := fun j => ⟨Nat.eq_of_beq_eq_true, fun e => by subst e; simp⟩
  have hbn : ∀ j, j < n → Nat.beq j (n + m) = false := fun j hj => by
    cases hb : Nat.beq j (n + m) with
    | false => rfl
    | true => have := (hbq j).1 hb; omega
  refine ⟨_, hrun, ⟨fun j oj hj hjn hL z hz2 hzb => ?_, hI.size, hI.defers, hI.k, ⟨⟨W'.φ, W'.adr, upd W'.hd s cs⟩, upd hf k2 [blk (W'.adr s) tb cs], m1.trans (hWs.imp fun j hj => by subst hj; exact hmem), ?_, fun j hj => ?_, fun j oj xj obj dj hj hL hoj hxj hdj => ?_⟩, fun s' hs' => hI.old s' fun j oj hj hL hoj => hs' j oj hj (by rw [hL]; rfl) hoj⟩⟩
  · rw [hbn j hjn, Bool.or_false] at hL
    rw [hI.closed j oj hj hjn hL z hz2 hzb]; rfl
  · refine Hb.perm (hs := blk (W'.adr s) tb ([] ++ cs ++ []) :: ((List.range n).flatMap (upd hf k2 []) ++ hr)) hb2 ?_
    rw [List.nil_append, List.append_nil]
    have p1 := flatMap_add (f := upd hf k2 []) (h := [blk (W'.adr s) tb cs]) List.nodup_range (List.mem_range.2 hk) (upd_self _ _ _)
    have e1 : upd (upd hf k2 []) k2 [blk (W'.adr s) tb cs] = upd hf k2 [blk (W'.adr s) tb cs] := by
      funext j; unfold upd; by_cases hj : j = k2 <;> simp [hj]
    rw [e1] at p1
    exact (p1.symm.append_right hr)
  · rw [Bool.or_eq_false_iff] at hj
    have : j ≠ k2 := fun e => by subst e; rw [hLk] at hj; exact absurd hj.1 (by simp)
    rw [show upd hf k2 [blk (W'.adr s) tb cs] j = hf j from if_neg this]
    exact m3 j hj.1
  · rw [hbn j hj, Bool.or_false] at hL
    have hjl : j < xs.length := by omega
    obtain ⟨⟨xj', obj'⟩, hxj'⟩ : ∃ y, xs[j]? = some y := ⟨_, List.getElem?_eq_getElem hjl⟩
    have hyj := ysOf_get st n (fun j => L j || Nat.beq j (n + m)) (htk j oj hj hoj) hxj'
    rw [hyj] at hxj
    injection hxj with hxj
    injection hxj with e1 e2
    subst e1
    rw [hdj] at e2
    simp only at e2
    by_cases hjk : j = k2
    · subst hjk
      have e3 : oj = ok := Option.some.inj (hoj.symm.trans hok)
      subst e3
      have e4 : dj = s := Option.some.inj (hdj.symm.trans hkd)
      subst e4
      have e5 := Option.some.inj (hxj'.symm.trans hxk)
      injection e5 with e5 e6
      subst e5 e6
      rw [curO_yes hstn hsm (by rw [(hbq _).2 rfl, Bool.or_true])] at e2
      subst e2
      refine ⟨[], [blk (W'.adr dj) tb cs], upd_self _ _ _, ⟨b2a, rfl⟩, [], ?_, ?_⟩
      · show Rp W'.φ ti.ty y (upd W'.hd dj cs dj) []
        rw [upd_self]; exact v2
      · show _ = [blk (W'.adr dj) tb (upd W'.hd dj cs dj)]
        rw [upd_self]
    · have hds : dj ≠ s := fun e => by
        subst e
        exact (hS.dist j k2 oj ok dj hj hk hoj hok hjk hkd).1 hdj
      rw [curO_other hsm (fun e => hds e.symm)] at e2
      have hyj2 := ysOf_get st n L (htk j oj hj hoj) hxj'
      rw [hdj] at hyj2
      simp only [e2] at hyj2
      obtain ⟨a1, a2, a3, a4, a5⟩ := m4 j oj _ _ dj hj hL hoj hyj2 hdj
      refine ⟨a1, a2, by rw [show upd hf k2 [blk (W'.adr s) tb cs] j = hf j from if_neg hjk]; exact a3, a4.wle hWs (fun key hkey hks => ?_), a5.wle hWs fun e => hds e⟩
      rcases (hS.key hj hoj hxj' hdj).1 key hkey with h6 | h6
      · rw [hks, hmem] at h6; cases h6
      · exact hds (h6.symm.trans hks)
theorem ysOf_congr {st : List (Nat × Ob)} {n : Nat} {L L' : Nat → Bool} (h : ∀ j, j < n + st.length → L j = L' j) : ∀ (l : List Oper) (xs : List (D × Option Ob)), ysOf st n L l xs = ysOf st n L' l xs
  | [], xs => by cases xs <;> rfl
  | _ :: _, [] => rfl
  | o :: l, (x, ob) :: xs => by
    show (_ : D × Option Ob) :: ysOf st n L l xs = (_ : D × Option Ob) :: ysOf st n L' l xs
    rw [ysOf_congr h l xs]
    congr 2
    cases o.dst with
    | none => rfl
    | some d => exact curO_congr h
theorem soupsR_ok {R : Type} {k : St → Option R} {r : R} {S : St} (hm : P.follows .mixedOrders = true) (hc : CtxOk P G c) (hn : c.n = N) {id n : Nat} {l : List Oper} (h : soupsR c n l S k = some r) {K : Act → Prop} (hK : ∀ o ∈ l, ∀ v a, K a → K (a.put o.dst v)) {Q : Exit → Act → World → Prop}
    (hQ : ∀ S', k S' = some r → ∀ a w, At N C G S' a w → K a → Q .normal a w) {a : Act} {w : World} (hat : At N C G S a w) (ha : K a) : (Code.region id l.toArray true).wp P Q a w := by
  unfold soupsR at h
  cases hB : soupsB c n l S.objs with
  | false => rw [hB] at h; cases h
  | true =>
  rw [hB, cond_true] at h
  unfold soupsB at hB
  simp only [Bool.and_eq_true] at hB
  obtain ⟨⟨⟨⟨⟨hB1, hB4⟩, hB2⟩, hB5⟩, hB3⟩, hB6⟩ := hB
  have hno : ∀ (i : Nat) (o : Oper), i < n → l[i]? = some o → ∀ d, o.dst = some d → hvy c d = none := fun i o hi ho d hd => by
    have h1 := List.all_eq_true.1 hB6 o (List.mem_of_getElem? (by rw [List.getElem?_take_of_lt hi]; exact ho))
    unfold noHvy at h1
    rw [hd] at h1
    simpa using h1
  have hF := soupOk2_spec hB1
  have hP := putsB_ok hB5
  have hnl : n ≤ l.length := by simpa [Nat.ble_eq] using hB4
  obtain ⟨xs, e1, e2, e3⟩ := soupE3_ok (l.take n) _ _ h
  split at e2
  case h_2 => cases e2
  case h_1 st hst =>
  have htl : (l.take n).length = n := by simp; omega
  have hslen := (putE_ok _ _ hst).1
  have hsl : n + st.length = l.length := by rw [hslen, List.length_drop]; omega
  obtain ⟨W, e, eh, oh, q1, q2, q3⟩ := hat
  obtain ⟨hs1, g1, g2, _⟩ := strips_ok (l.take n) _ _ q1.env
  obtain ⟨g3, g4⟩ := killL_ok (ks := eks c (l.take n)) g1
  have hb2 := ((Sub.app g2 (Sub.refl oh)).trans (Sub.perm List.perm_append_comm)).hb q3
  have hS : Soup c l n (eks c (l.take n)) S.objs (killL (eks c (l.take n)) (strips (l.take n) S.env)) xs := by
    refine ⟨hnl, by rw [e1, htl], distB_ok hB2, fun i o d hi ho hd hq => ?_, g4, fun p hp => ?_, fun i o x ob hi ho hx => ?_⟩
    · refine mem_contains (List.mem_filterMap.2 ⟨o, ?_, ?_⟩)
      · have : (l.take n)[i]? = some o := by rw [List.getElem?_take_of_lt hi]; exact ho
        exact List.mem_of_getElem? this
      · rw [hq]; exact hd
    · have := List.all_eq_true.1 hB3 p hp
      simpa using this
    · have h5 := e3 i o x ob (by rw [List.getElem?_take_of_lt hi]; exact ho) hx
      rw [List.take_take, Nat.min_eq_left (by omega)] at h5
      exact h5
  have hxl : xs.length = (l.take n).length := e1
  have hbase : ∀ s d, look (killL (eks c (l.take n)) (strips (l.take n) S.env)) s = some d → ∃ h, DR W d (a.tmps.getD s undef) h := fun s d hl => by
    obtain ⟨v, h1, r1, b1, b2, _⟩ := g3.look hl
    exact ⟨h1, by rw [q2.look b1]; exact b2⟩
  -- before its store nothing was stored to an object
  have hfresh : ∀ (L : Nat → Bool) (i : Nat) (o : Oper), (∀ (j : Nat) (o : Oper), l.toArray[j]? = some o → L j = true → ∀ x ∈ o.after, Region.binds .any x = true → L x.on = true) → l[i]? = some o → i < n → L i = false → (ysOf st n L (l.take n) xs)[i]? = xs[i]? := fun L i o hcl ho hi hLi => by
    obtain ⟨⟨x, ob⟩, hx⟩ : ∃ y, xs[i]? = some y := ⟨_, List.getElem?_eq_getElem (by omega)⟩
    rw [ysOf_get st n L (by rw [List.getElem?_take_of_lt hi]; exact ho) hx, hx]
    congr 2
    obtain ⟨d, hd, _⟩ := hS.at_ i o x ob hi ho hx
    rw [hd]
    refine curO_not fun j b hj => ?_
    cases hLj : L (n + j) with
    | false => rfl
    | true =>
      have hjl := (List.getElem?_eq_some_iff.1 hj).1
      obtain ⟨os, hos⟩ : ∃ os, l[n + j]? = some os := ⟨_, List.getElem?_eq_getElem (by omega)⟩
      have hos2 : (l.drop n)[j]? = some os := by rw [List.getElem?_drop]; exact hos
      obtain ⟨t, s, x', ob', ti, tb, y, hop, _, _, _, _, _, _, hsm⟩ := (putE_ok _ _ hst).2 j os hos2
      have hsd : s = d := by
        have := Option.some.inj (hsm.symm.trans hj)
        injection this
      subst hsd
      obtain ⟨hg, hdn, hw⟩ := hP.at_ _ os hos (by omega)
      have hls : s ∈ os.looksAt l.toArray := by
        obtain ⟨dst, op, ty, pos, af, gd⟩ := os
        simp only at hop hg
        subst hop hg
        simp [Oper.looksAt, Op.operands]
      obtain ⟨k', ok', hk', hok', hkd', hwt⟩ := hw s hls
      obtain ⟨o2, ho2, z, hz, hzb, hon⟩ := Region.waitsFor_spec hwt
      have : o2 = os := Option.some.inj (ho2.symm.trans (by simpa using hos))
      subst this
      have h7 := hcl _ o2 ho2 hLj z hz hzb
      have : k' = i := Classical.byContradiction fun e => (hS.dist k' i ok' o s hk' hi hok' ho e hd).1 hkd'
      rw [hon, this, hLi] at h7
      cases h7
  refine soup_ok2 (n := l.length) hm hF (fun L a2 w2 => SInv3 C G N l n (eks c (l.take n)) (ysOf st n L (l.take n) xs) W (oh ++ hs1) (fun s => a.tmps.getD s undef) K L a2 w2 ∧ ∀ (j : Nat) (o : Oper), l.toArray[j]? = some o → L j = true → ∀ x ∈ o.after, Region.binds .any x = true → L x.on = true) ?_ ?_ ?_ ?_ a w ?_
  · intro L L' a' w' hLL ⟨hI, hcl⟩
    have hys : ysOf st n L (l.take n) xs = ysOf st n L' (l.take n) xs := ysOf_congr (fun j hj => hLL j (by omega)) _ _
    refine ⟨?_, fun j o ho hL x hx hb => ?_⟩
    · rw [← hys]
      refine ⟨fun j o ho hj hL x hx hb => ?_, hI.size, hI.defers, hI.k, ?_, fun s hs => hI.old s fun i o hi hL ho => hs i o hi (by rw [← hLL i (by omega)]; exact hL) ho⟩
      · have h6 := hI.closed j o ho hj (by rw [hLL j (by omega)]; exact hL) x hx hb
        have := hF.edge j o ho x hx hb
        rw [← hLL x.on (by omega)]; exact h6
      · obtain ⟨W', hf, m1, m2, m3, m4⟩ := hI.mem
        refine ⟨W', fun i => if i < n then hf i else [], m1, ?_, fun i hi => ?_, fun i o x ob d hi hL ho hx hd => ?_⟩
        · have : (List.range n).flatMap (fun i => if i < n then hf i else []) = (List.range n).flatMap hf := by
            rw [List.flatMap_def, List.flatMap_def]
            congr 1
            exact List.map_congr_left fun i hi => if_pos (List.mem_range.1 hi)
          rw [this]; exact m2
        · by_cases hin : i < n
          · show (if i < n then hf i else []) = []
            rw [if_pos hin]; exact m3 i (by rw [hLL i (by omega)]; exact hi)
          · exact if_neg hin
        · obtain ⟨h1, h2, b1, b2⟩ := m4 i o x ob d hi (by rw [hLL i (by omega)]; exact hL) ho hx hd
          exact ⟨h1, h2, by show (if i < n then hf i else []) = _; rw [if_pos hi]; exact b1, b2⟩
    · have hjl : j < l.length := by have := (Array.getElem?_eq_some_iff.1 ho).1; simpa using this
      have h6 := hcl j o ho (by rw [hLL j hjl]; exact hL) x hx hb
      have := hF.edge j o ho x hx hb
      rw [← hLL x.on (by omega)]; exact h6
  · intro Q' L i o ho hi hLi hdeps a' w' ⟨hI, hcl⟩
    have hcl' : ∀ (j : Nat) (o' : Oper), l.toArray[j]? = some o' → (L j || Nat.beq j i) = true → ∀ x ∈ o'.after, Region.binds .any x = true → (L x.on || Nat.beq x.on i) = true := fun j o' ho' hL x hx hb => by
      rw [Bool.or_eq_true] at hL
      rcases hL with hL | hL
      · rw [hcl j o' ho' hL x hx hb]; rfl
      · have := Nat.eq_of_beq_eq_true hL
        subst this
        have : o' = o := Option.some.inj (ho'.symm.trans ho)
        subst this
        rw [hdeps x hx hb]; rfl
    by_cases hin : i < n
    · obtain ⟨d, x, ob, W', hf, b1, b2, b3⟩ := soup_step3 hc hn hS (ysOf_like st n L hxl) q1.obs q1.nd hbase hK ho hin hLi hdeps (hfresh L i o hcl (by simpa using ho) hin hLi) (hno i o hin (by simpa using ho)) hI
      have hys : ysOf st n L (l.take n) xs = ysOf st n (fun j => L j || Nat.beq j i) (l.take n) xs := by
        have key : ∀ (st : List (Nat × Ob)) (m d : Nat) (ob : Option Ob), n ≤ m → curO st m L d ob = curO st m (fun j => L j || Nat.beq j i) d ob := fun st => by
          induction st with
          | nil => intro m d ob _; cases ob <;> rfl
          | cons p r ih =>
            intro m d ob hm
            obtain ⟨s, b⟩ := p
            cases ob with
            | none => rfl
            | some b0 =>
              unfold curO
              have : Nat.beq m i = false := by
                cases hb : Nat.beq m i with
                | false => rfl
                | true => have := Nat.eq_of_beq_eq_true hb; omega
              simp only [this, Bool.or_false]
              rw [ih (m + 1) d (some b0) (by omega)]
        have all : ∀ (l : List Oper) (xs : List (D × Option Ob)), ysOf st n L l xs = ysOf st n (fun j => L j || Nat.beq j i) l xs := fun l => by
          induction l with
          | nil => intro xs; cases xs <;> rfl
          | cons o1 l ih =>
            intro xs
            cases xs with
            | nil => rfl
            | cons p xs =>
              obtain ⟨x1, ob1⟩ := p
              show (_ : D × Option Ob) :: ysOf st n L l xs = (_ : D × Option Ob) :: ysOf st n _ l xs
              rw [ih xs]
              congr 2
              cases o1.dst with
              | none => rfl
              | some d => exact key st n d ob1 (Nat.le_refl _)
        exact all _ _
      unfold wpOp
      rw [ho]
      have fin : ∀ v w2, SInv3 C G N l n (eks c (l.take n)) (ysOf st n L (l.take n) xs) W (oh ++ hs1) (fun s => a.tmps.getD s undef) K (fun j => L j || Nat.beq j i) (a'.put o.dst v) w2 → SInv3 C G N l n (eks c (l.take n)) (ysOf st n (fun j => L j || Nat.beq j i) (l.take n) xs) W (oh ++ hs1) (fun s => a.tmps.getD s undef) K (fun j => L j || Nat.beq j i) (a'.put o.dst v) w2 := fun v w2 h => by rw [← hys]; exact h
      rcases b2 with ⟨b4, b5⟩ | ⟨b4, b5⟩
      · simp only [b4, if_true]
        refine .inl ?_
        unfold Oper.wp
        unfold LRun3 at b5
        revert b5
        generalize (execOp a'.eval o).run P w' = q
        intro b5
        cases q with
        | halt y w2 => exact b5.elim
        | ok y w2 =>
          cases y <;> first | exact b5.elim | skip
          · exact ⟨fin _ _ (b3 _ _ b5), hcl'⟩
          · exact ⟨fin _ _ (b3 _ _ b5), hcl'⟩
          · exact Calls.mono b5 fun y w3 ⟨v, hy1, hy2⟩ => by
              subst hy1
              exact ⟨fin _ _ (b3 _ _ hy2), hcl'⟩
      · simp only [b4]
        exact ⟨fin _ _ (b3 _ _ b5), hcl'⟩
    · obtain ⟨w2, r1, r2⟩ := store_step hc hS hP hst ho (by omega) hLi hdeps hI
      obtain ⟨hg, hd, _⟩ := hP.at_ i o (by simpa using ho) (by omega)
      have hw : Region.wanted o (yielded l.toArray a'.tmps) = true := by simp [Region.wanted, hg]
      unfold wpOp
      rw [ho]
      simp only [hw, if_true]
      refine .inl ?_
      unfold Oper.wp
      rw [r1]
      have key : ∀ b : Act, b = a' → (SInv3 C G N l n (eks c (l.take n)) (ysOf st n (fun j => L j || Nat.beq j i) (l.take n) xs) W (oh ++ hs1) (fun s => a.tmps.getD s undef) K (fun j => L j || Nat.beq j i) b w2 ∧ ∀ (j : Nat) (o' : Oper), l.toArray[j]? = some o' → (L j || Nat.beq j i) = true → ∀ x ∈ o'.after, Region.binds .any x = true → (L x.on || Nat.beq x.on i) = true) := fun b hb => by subst hb; exact ⟨r2, hcl'⟩
      exact key (a'.put o.dst undef) (by rw [hd]; rfl)
  · intro hlt; omega
  · intro Q' hQQ a' w' ⟨hI, _⟩
    have hA := soup_end hS (ysOf_like st n _ hxl) q1.obs q1.nd g3 q2 (fun W' o ho d hd => killL_nil (strips_at (l.take n) _ o ho d hd)) (fun _ => rfl) (fun _ _ => rfl) hI
    rw [putsE_ys, nwO_ys st n _ (fun _ _ => rfl)] at hA
    obtain ⟨S', c1, c2⟩ := convE_ok (N := N) (C := C) (G := G) _ _ _ e2
    rw [List.drop_length]
    exact hQQ a' w' (hQ S' c1 a' w' (c2 a' w' hA) hI.k)
  · refine ⟨⟨fun _ _ _ _ h => (by cases h), q2.size, q2.defers, ha, ⟨W, fun _ => [], WLe.refl W, ?_, fun _ _ => rfl, fun _ _ _ _ _ _ h => (by cases h)⟩, fun _ _ => rfl⟩, fun _ _ _ h => (by cases h)⟩
    have : (List.range n).flatMap (fun _ => ([] : List Chunk)) = [] := by simp
    rw [this, List.nil_append]
    exact hb2.drew
theorem regB_ok {Rt : Type} {r : Rt} {S : St} (hm : P.follows .mixedOrders = true) (hc : CtxOk P G c) (hn : c.n = N) {id : Nat} {ops : Array Oper} {dr : Bool} {an : Ann} {k : Ex → St → Option Rt} {K : Act → Prop} {Q : Exit → Act → World → Prop} (h : regB c ops.toList dr an S k = some r) (hK : ∀ o ∈ ops.toList, ∀ v a, K a → K (a.put o.dst v))
    (hQ : ∀ S', k .nrm S' = some r → ∀ a w, At N C G S' a w → K a → Q .normal a w) {a : Act} {w : World} (hat : At N C G S a w) (ha : K a) : (Code.region id ops dr).wp P Q a w := by
  by_cases hs : dr = true ∧ ∃ n, an = .soup n
  · obtain ⟨rfl, n, rfl⟩ := hs
    obtain ⟨l⟩ := ops
    exact soupR_ok hm hc hn h hK hQ hat ha
  · by_cases hs2 : dr = true ∧ ∃ n, an = .soups n
    · obtain ⟨rfl, n, rfl⟩ := hs2
      obtain ⟨l⟩ := ops
      exact soupsR_ok hm hc hn h hK hQ hat ha
    by_cases hs3 : dr = true ∧ ∃ n d s0, an = .souph n d s0
    · obtain ⟨rfl, n, d, s0, rfl⟩ := hs3
      obtain ⟨l⟩ := ops
      exact souphR_ok hm hc hn h hK hQ hat ha
    cases dr with
    | true => exact regE_ok0 hm hc hn (fun n e => hs ⟨rfl, n, e⟩) (fun n e => hs2 ⟨rfl, n, e⟩) (fun n d s0 e => hs3 ⟨rfl, n, d, s0, e⟩) h hK hQ hat ha
    | false =>
      obtain ⟨l⟩ := ops
      exact wp_region_lit (opsE_ok hc hn l S h hK hQ a w hat ha)
theorem openO_ok {S S' : St} {j : Nat} {p : List Dir} {a : Act} {w : World} (h : openO S j p = some S') (hat : At N C G S a w) : At N C G S' a w := by
  obtain ⟨W, e, eh, oh, hs, hf, hb⟩ := hat
  unfold openO at h
  split at h
  · split at h
    · rename_i y S1 ho
      injection h with h
      subst h
      obtain ⟨t', l', ey, v, φ', oh', b1, b2, b3, b4, b5⟩ := open_ok ho hs hb
      exact ⟨⟨φ', W.adr, W.hd⟩, e, eh, oh', b4, hf, b5⟩
    · cases h
  · cases h
theorem EnvR.fzE {W : Wit} {φ' : Phi} {l : List (Nat × D)} {e : Env} {hs : List Chunk} (h : EnvR W l e hs) (hle : W.φ.le φ') {j : Nat} {t : Ty} {y : t.den} {cs : List Value} (hr : Rp φ' t y cs []) (hp : PhiAt φ' ⟨W.adr j, 0, none⟩ cs) : EnvR ⟨φ', W.adr, W.hd⟩ (Lf.fzE j t y l) e hs := by
  have h1 := h.mono (W' := ⟨φ', W.adr, W.hd⟩) hle rfl rfl
  clear h
  generalize hW : (⟨φ', W.adr, W.hd⟩ : Wit) = W1 at h1
  induction h1 with
  | nil => exact .nil
  | @cons k d v hd hs l e h2 h3 ih =>
    unfold Lf.fzE
    split
    case h_1 he => cases he
    case h_2 k' j' r' he =>
      injection he with he1 he2
      injection he1 with he3 he4
      subst he2 he3
      subst he4
      refine .cons ?_ ih
      cases hb : Nat.beq j j' with
      | false => exact h2
      | true =>
        have := Nat.eq_of_beq_eq_true hb
        subst this
        obtain ⟨rfl, rfl⟩ := h2
        subst hW
        exact ⟨_, cs, rfl, hr, hp, rfl⟩
    case h_3 he =>
      injection he with he1 he2
      subst he1 he2
      exact .cons h2 ih
theorem fzO_ok {S S' : St} {j : Nat} {a : Act} {w : World} (h : fzO S j = some S') (hat : At N C G S a w) : At N C G S' a w := by
  obtain ⟨W, e, eh, oh, hs, hf, hb⟩ := hat
  unfold fzO at h
  split at h
  case h_2 => cases h
  case h_1 ob hob =>
  split at h
  case h_2 => cases h
  case h_1 tid ht =>
  split at h
  case h_2 => cases h
  case h_1 y hy =>
  injection h with h
  subst h
  obtain ⟨h0, r', ⟨hc0, b1, b2⟩, b3, _, b5⟩ := hs.obs.set hs.nd hob
  rw [ht] at b2
  have b2 : h0 = blk (W.adr j) tid (W.hd j) :: hc0 := b2
  subst b2
  obtain ⟨h', r3, _⟩ := coe_ok hy b1
  have := Rp.er_nil (Ty.er_er ob.t).symm r3
  subst this
  have hb1 : Hb C w (blk (W.adr j) tid (W.hd j) :: (eh ++ r')) (Inv G W.φ) := by
    refine ((Sub.app (Sub.refl eh) ((Sub.perm b3).trans (?_ : Sub _ (blk (W.adr j) tid (W.hd j) :: r')))).trans (Sub.perm (List.perm_middle (l₁ := eh)))).hb hb
    exact Sub.cons (Sub.right)
  obtain ⟨φ', f1, f2, f3⟩ := freeze_blk hb1
  obtain ⟨oh', k1, k2⟩ := b5 φ' f1
  exact ⟨⟨φ', W.adr, W.hd⟩, e, eh, oh', ⟨(hs.env.fzE f1 (r3.mono f1) f2).killJ0 j, k1, (dell_nodup j hs.nd).1⟩, hf, (Sub.app (Sub.refl eh) (Sub.perm k2.symm)).hb f3⟩
theorem openOs_ok {j : Nat} {a : Act} {w : World} : ∀ (l : List (List Dir)) {S S' : St}, openOs S j l = some S' → At N C G S a w → At N C G S' a w
  | [], S, S', h, hat => by
    injection h with h
    subst h
    exact hat
  | p :: r, S, S', h, hat => by
    unfold openOs at h
    split at h
    · rename_i S1 h1
      exact openOs_ok r h (openO_ok h1 hat)
    · cases h
theorem regE_ok {Rt : Type} {r : Rt} {S : St} (hm : P.follows .mixedOrders = true) (hc : CtxOk P G c) (hn : c.n = N) {id : Nat} {ops : Array Oper} {dr : Bool} {an : Ann} {k : Ex → St → Option Rt} {K : Act → Prop} {Q : Exit → Act → World → Prop} (h : regE c ops.toList dr an S k = some r) (hK : ∀ o ∈ ops.toList, ∀ v a, K a → K (a.put o.dst v))
    (hQ : ∀ S', k .nrm S' = some r → ∀ a w, At N C G S' a w → K a → Q .normal a w) {a : Act} {w : World} (hat : At N C G S a w) (ha : K a) : (Code.region id ops dr).wp P Q a w := by
  unfold regE at h
  split at h
  · split at h
    · rename_i S' hS
      exact regB_ok hm hc hn h hK hQ (openJ_ok hS hat) ha
    · cases h
  · split at h
    · rename_i S' hS
      unfold freeO at hS
      split at hS
      · rename_i S1 h1
        exact regB_ok hm hc hn h hK hQ (fzO_ok hS (openOs_ok _ h1 hat)) ha
      · cases hS
    · cases h
  · split at h
    · rename_i S' hS
      exact regB_ok hm hc hn h hK hQ (openO_ok hS hat) ha
    · cases h
  · exact regB_ok hm hc hn h hK hQ hat ha
end
end Go.Lf
/-
  Code.
-/
namespace Go.Lf
open Go Go.Eng

def Ex.out : Ex → Exit
  | .nrm => .normal
  | .ret => .ret
  | .ext i => .exit i
theorem Ex.eq_ok {x y : Ex} (h : x.eq y = true) : x = y := by
  cases x <;> cases y <;> first | rfl | (cases h; done) | skip
  rw [Nat.eq_of_beq_eq_true (show Nat.beq _ _ = true from h)]

section
variable {P : Program} {N : Nat} {C : Cx} {c : Ctx} {G J : World → Prop}

variable (P N C c)
/-- What the interpreter says of a piece of code holds. -/
def Sound (code : Code) (S : St) (R : Type) (k : Ex → St → Option R) (r : R) : Prop :=
  ∀ (G : World → Prop), CtxOk P G c → ∀ (K : Act → Prop), (∀ t ∈ dsts code, ∀ v a, K a → K (a.put (some t) v)) → ∀ Q : Exit → Act → World → Prop,
    (∀ x S', k x S' = some r → ∀ a w, At N C G S' a w → K a → Q x.out a w) → ∀ a w, At N C G S a w → K a → code.wp P Q a w
variable {P N C c}

theorem dec_ok {dead : List Nat} {S S' : St} {R : Type} {k : Ex → St → Option R} {r : R} : ∀ {w : Ways} {x : Ex} {z : w.T}, w.enc x S' = some z → w.dec dead S k z = some r → ∃ (s : Shape) (z' : prodT s.tys), s.get S' = some z' ∧ k x (s.mk' dead S z') = some r
  | .one y s, x, z, he, hd => by
    unfold Ways.enc at he
    cases hb : y.eq x with
    | false => rw [hb] at he; cases he
    | true =>
      rw [hb] at he
      have := Ex.eq_ok hb
      subst this
      exact ⟨s, z, he, hd⟩
  | .more y s w, x, z, he, hd => by
    replace he : (bif y.eq x then (match s.get S' with | some z => (some (.inl z) : Option (prodT s.tys ⊕ w.T)) | none => none) else (match w.enc x S' with | some z => some (.inr z) | none => none)) = some z := he
    cases hb : y.eq x with
    | false =>
      rw [hb, cond_false] at he
      cases hz : w.enc x S' with
      | none => rw [hz] at he; cases he
      | some z' =>
        rw [hz] at he
        injection he with he
        subst he
        exact dec_ok hz hd
    | true =>
      rw [hb, cond_true] at he
      have := Ex.eq_ok hb
      subst this
      cases hz : s.get S' with
      | none => rw [hz] at he; cases he
      | some z' =>
        rw [hz] at he
        injection he with he
        subst he
        exact ⟨s, z', hz, hd⟩

theorem put_other {a : Act} {t s : Nat} {v : Value} (h : s ≠ t) : (a.put (some t) v).tmps[s]? = a.tmps[s]? := by
  simp only [Act.put]
  exact Array.getElem?_setIfInBounds_ne (Ne.symm h)

theorem wrap_ok {code : Code} {S : St} {R : Type} {k : Ex → St → Option R} {r : R} {an : Ann} {base : (R : Type) → Ann → (Ex → St → Option R) → Option R}
    (hbase : ∀ (R : Type) (an : Ann) (k : Ex → St → Option R) (r : R), base R an k = some r → Sound P N C c code S R k r) (h : wrap (dsts code) S an base k = some r) : Sound P N C c code S R k r := by
  cases an with
  | join w an =>
    intro G hc K hK Q hQ a wd hat ha
    obtain ⟨z, hz, hd⟩ := Option.bind_eq_some_iff.1 h
    obtain ⟨W0, e0, eh0, oh0, hs0, hf0, hb0⟩ := id hat
    refine hbase _ an _ _ hz (fun w => G w ∧ Agree W0.φ w) hc.more (fun a' => K a' ∧ ∀ t, t ∉ dsts code → a'.tmps[t]? = a.tmps[t]?) (fun t ht v a' h' => ⟨hK t ht v a' h'.1, fun s hs => ?_⟩) Q (fun x S' hx a' w' hat' ha' => ?_) a wd ?_ ⟨ha, fun _ _ => rfl⟩
    · rw [put_other fun e => (by subst e; exact hs ht)]; exact h'.2 s hs
    · obtain ⟨s, z', q1, q2⟩ := dec_ok hx hd
      exact hQ x _ q2 a' w' (mk_ok (fun w hw => hw.2) hs0.env hf0 ha'.2 q1 hat').less ha'.1
    · exact ⟨W0, e0, eh0, oh0, hs0, hf0, hb0.imp fun w hw => ⟨⟨hw.1, hw.2⟩, hw.2⟩⟩
  | _ => exact hbase _ _ _ _ h

theorem iter_loop {σ κ : Type} {B : σ → Option (σ ⊕ κ)} {z : σ} {q : κ} (h : loopC B z = some q) : ∃ n, iter B n z = some q := by
  unfold loopC at h
  split at h
  · rename_i hex
    simp only [Option.some.injEq] at h
    subst h
    exact Classical.choose_spec hex
  · cases h

theorem seq_sound {a b : Code} {S : St} {R : Type} {k : Ex → St → Option R} {r : R} {f : St → Option R} (ha : Sound P N C c a S R (seqK f k) r) (hb : ∀ S', f S' = some r → Sound P N C c b S' R k r) : Sound P N C c (.seq a b) S R k r := by
  intro G hc K hK Q hQ x w hat hx
  refine wp_seq (ha G hc K (fun t ht => hK t (List.mem_append_left _ ht)) _ (fun y S' hy a' w' hat' ha' => ?_) x w hat hx)
  cases y with
  | nrm => exact hb S' hy G hc K (fun t ht => hK t (List.mem_append_right _ ht)) Q hQ a' w' hat' ha'
  | ret => exact hQ .ret S' hy a' w' hat' ha'
  | ext i => exact hQ (.ext i) S' hy a' w' hat' ha'

theorem codeE_ok (hm : P.follows .mixedOrders = true) (hn : c.n = N) : ∀ (code : Code) (an : Ann) (R : Type) (S : St) (k : Ex → St → Option R) (r : R), codeE c code an R S k = some r → Sound P N C c code S R k r
  | .skip, an, R, S, k, r, h => fun G hc K hK Q hQ a w hat ha => wp_skip (hQ .nrm S (by unfold codeE at h; exact h) a w hat ha)
  | .exit i, an, R, S, k, r, h => fun G hc K hK Q hQ a w hat ha => wp_exit (hQ (.ext i) S (by unfold codeE at h; exact h) a w hat ha)
  | .ret, an, R, S, k, r, h => fun G hc K hK Q hQ a w hat ha => wp_ret (hQ .ret S (by unfold codeE at h; exact h) a w hat ha)
  | .label _, an, R, S, k, r, h => fun G hc K hK Q hQ a w hat ha => wp_label (hQ .nrm S (by unfold codeE at h; exact h) a w hat ha)
  | .region i ops dr, an, R, S, k, r, h => by
    unfold codeE at h
    refine wrap_ok (fun R an k r h => ?_) h
    intro G hc K hK Q hQ a w hat ha
    refine regE_ok hm hc hn h (K := K) (fun o ho v a ha => ?_) (fun S' hS a' w' hat' ha' => hQ .nrm S' hS a' w' hat' ha') hat ha
    cases hd : o.dst with
    | none => exact ha
    | some d => exact hK d (List.mem_filterMap.2 ⟨o, ho, hd⟩) v a ha
  | .seq a b, an, R, S, k, r, h => by
    unfold codeE at h
    exact wrap_ok (fun R an k r h => seq_sound (codeE_ok hm hn a _ _ _ _ _ h) fun S' hS => codeE_ok hm hn b _ _ _ _ _ hS) h
  | .cond x a b, an, R, S, k, r, h => by
    unfold codeE at h
    refine wrap_ok (fun R an k r h => ?_) h
    unfold condE at h
    split at h
    case h_2 => cases h
    case h_1 bb hx =>
    intro G hc K hK Q hQ ac w hat ha
    obtain ⟨W, e, eh, oh, q1, q2, q3⟩ := id hat
    have hev := q2.ev (get_bool q1.env hx)
    cases hb : (bb : Bool) with
    | true =>
      rw [hb] at h hev
      exact wp_cond_true hev (codeE_ok hm hn a _ _ _ _ _ h G hc K (fun t ht => hK t (List.mem_append_left _ ht)) Q hQ ac w hat ha)
    | false =>
      rw [hb] at h hev
      exact wp_cond_false hev (codeE_ok hm hn b _ _ _ _ _ h G hc K (fun t ht => hK t (List.mem_append_right _ ht)) Q hQ ac w hat ha)
  | .block i a, an, R, S, k, r, h => by
    unfold codeE at h
    refine wrap_ok (fun R an k r h => ?_) h
    intro G hc K hK Q hQ ac w hat ha
    refine wp_block (codeE_ok hm hn a _ _ _ _ _ h G hc K hK _ (fun x S' hx a' w' hat' ha' => ?_) ac w hat ha)
    cases x with
    | nrm => exact hQ .nrm S' hx a' w' hat' ha'
    | ret => exact hQ .ret S' hx a' w' hat' ha'
    | ext j =>
      unfold blkK at hx
      simp only at hx
      show (if j = i then Q .normal a' w' else Q (.exit j) a' w')
      cases hb : Nat.beq j i with
      | true =>
        rw [hb] at hx
        rw [if_pos (Nat.eq_of_beq_eq_true hb)]
        exact hQ .nrm S' hx a' w' hat' ha'
      | false =>
        rw [hb] at hx
        rw [if_neg fun e => by rw [e, Nat.beq_refl] at hb; cases hb]
        exact hQ (.ext j) S' hx a' w' hat' ha'
  | .scope a, an, R, S, k, r, h => by
    unfold codeE at h
    refine wrap_ok (fun R an k r h => ?_) h
    intro G hc K hK Q hQ ac w hat ha
    refine wp_scope_straight (codeE_ok hm hn a _ _ _ _ _ h G hc K hK _ (fun x S' hx a' w' hat' ha' => ?_) ac w hat ha)
    cases x with
    | nrm => exact hQ .nrm S' hx a' w' hat' ha'
    | ret => exact hQ .ret S' hx a' w' hat' ha'
    | ext j => exact hQ (.ext j) S' hx a' w' hat' ha'
  | .loop a, an, R, S, k, r, h => by
    cases an <;> first | (unfold codeE at h; cases h; done) | skip
    rename_i s w an
    unfold codeE at h
    split at h
    case h_1 => cases h
    case h_2 z0 hz0 =>
    obtain ⟨q, hq, hd⟩ := Option.bind_eq_some_iff.1 h
    obtain ⟨n, hn0⟩ := iter_loop hq
    intro G hc K hK Q hQ ac wd hat ha
    obtain ⟨W0, e0, eh0, oh0, hs0, hf0, hb0⟩ := id hat
    have hat0 : At N C (fun w => G w ∧ Agree W0.φ w) S ac wd := ⟨W0, e0, eh0, oh0, hs0, hf0, hb0.imp fun w hw => ⟨⟨hw.1, hw.2⟩, hw.2⟩⟩
    have mk : ∀ {S' : St} {z : prodT s.tys} {a' : Act} {w' : World}, s.get S' = some z → (∀ t, t ∉ dsts (.loop a) → a'.tmps[t]? = ac.tmps[t]?) → At N C (fun w => G w ∧ Agree W0.φ w) S' a' w' → At N C (fun w => G w ∧ Agree W0.φ w) (s.mk' (dsts (.loop a)) S z) a' w' :=
      fun hg hk h => mk_ok (fun w hw => hw.2) hs0.env hf0 hk hg h
    refine wp_loop_ghost (fun n a' w' => ∃ z', iter (fun z : prodT s.tys => codeE c a an (prodT s.tys ⊕ w.T) (s.mk' (dsts (.loop a)) S z) (loopK s w)) n z' = some q ∧ At N C (fun w => G w ∧ Agree W0.φ w) (s.mk' (dsts (.loop a)) S z') a' w' ∧ (K a' ∧ ∀ t, t ∉ dsts (.loop a) → a'.tmps[t]? = ac.tmps[t]?)) n
      ⟨z0, hn0, mk hz0 (fun _ _ => rfl) hat0, ha, fun _ _ => rfl⟩ fun n a1 w1 ⟨z', hit, hat1, hk1⟩ => ?_
    cases n with
    | zero => cases hit
    | succ m =>
      unfold iter at hit
      obtain ⟨rr, hB, hit⟩ := Option.bind_eq_some_iff.1 hit
      refine codeE_ok hm hn a an _ _ _ rr hB (fun w => G w ∧ Agree W0.φ w) hc.more (fun a' => K a' ∧ ∀ t, t ∉ dsts (.loop a) → a'.tmps[t]? = ac.tmps[t]?) (fun t ht v a' h' => ⟨hK t ht v a' h'.1, fun u hu => ?_⟩) _ (fun x S' hx a' w' hat' ha' => ?_) a1 w1 hat1 hk1
      · rw [put_other fun e => (by subst e; exact hu ht)]; exact h'.2 u hu
      · have done : x ≠ .nrm → (∃ q', w.enc x S' = some q' ∧ rr = .inr q') → Q x.out a' w' := fun hne ⟨q', h1, h2⟩ => by
          subst h2
          simp only [Option.some.injEq] at hit
          subst hit
          obtain ⟨s2, z2, g1, g2⟩ := dec_ok h1 hd
          exact hQ x _ g2 a' w' (mk_ok (fun w hw => hw.2) hs0.env hf0 ha'.2 g1 hat').less ha'.1
        cases x with
        | nrm =>
          unfold loopK at hx
          simp only at hx
          split at hx
          · rename_i z2 hz2
            simp only [Option.some.injEq] at hx
            subst hx
            exact ⟨m, Nat.lt_succ_self m, z2, hit, mk hz2 ha'.2 hat', ha'⟩
          · cases hx
        | ret =>
          unfold loopK at hx
          simp only at hx
          split at hx
          · rename_i z2 hz2
            simp only [Option.some.injEq] at hx
            exact done (fun e => by cases e) ⟨z2, hz2, hx.symm⟩
          · cases hx
        | ext i =>
          unfold loopK at hx
          simp only at hx
          split at hx
          · rename_i z2 hz2
            simp only [Option.some.injEq] at hx
            exact done (fun e => by cases e) ⟨z2, hz2, hx.symm⟩
          · cases hx
  | .goto _, an, R, S, k, r, h => by cases h
termination_by structural code => code
end
end Go.Lf
/-
  Functions.
-/
namespace Go.Lf
open Go Go.Eng

theorem unProd_cons {a : Ty} : ∀ {r : List Ty} (x : a.den) (y : prodT r), unProd (a :: r) (consP r x y) = ⟨a, x⟩ :: unProd r y
  | [], _, _ => rfl
  | _ :: _, _, _ => rfl
/-- the results, read one by one -/
inductive ResRun (P : Program) (tmps : Array Value) (w : World) : List ResultVar → List Value → Prop
  | nil : ResRun P tmps w [] []
  | tmp {t : Nat} {l : List ResultVar} {vs : List Value} : ResRun P tmps w l vs → ResRun P tmps w (.tmp t :: l) (tmps.getD t undef :: vs)
  | cell {t ty : Nat} {a : Addr} {v : Value} {l : List ResultVar} {vs : List Value} : tmps.getD t undef = .pointer (some a) → (loadVar ty a).run P w = .ok v w → ResRun P tmps w l vs → ResRun P tmps w (.cell t ty :: l) (v :: vs)
theorem results_ok {P : Program} {fn : Func} {slots : List ResultVar} {tmps : Array Value} {w : World} {vs : List Value} (h : fn.results = slots.toArray) (hr : ResRun P tmps w slots vs) :
    (results fn tmps).run P w = .ok (resVal vs) w := by
  have key : ∀ (g : ResultVar → Sem Value), (∀ t, g (.tmp t) = pure (tmps.getD t undef)) → (∀ t ty, g (.cell t ty) = do loadVar ty (← asAddr (tmps.getD t undef))) → (slots.mapM g).run P w = .ok vs w := fun g g1 g2 => by
    induction hr generalizing fn with
    | nil => rfl
    | @tmp t l vs _ ih =>
      simp only [List.mapM_cons, g1, Sem.run_bind, Sem.run_pure, Result.andThen_ok]
      rw [ih (fn := { fn with results := l.toArray }) rfl]
      rfl
    | @cell t ty a v l vs h1 h2 _ ih =>
      have h3 : (asAddr (tmps.getD t undef)).run P w = .ok a w := by rw [h1]; rfl
      simp only [List.mapM_cons, g2, Sem.run_bind, h3, h2, Result.andThen_ok]
      rw [ih (fn := { fn with results := l.toArray }) rfl]
      rfl
  unfold results
  rw [h, List.mapM_toArray]
  simp only [Sem.run_bind, Sem.run_map]
  rw [key _ (fun _ => rfl) (fun _ _ => rfl)]
  match vs with
  | [] => rfl
  | [_] => rfl
  | _ :: _ :: _ => rfl

section
variable {P : Program} {N : Nat} {C : Cx} {c : Ctx} {G : World → Prop} {S : St} {a : Act} {w : World}
variable {W : Wit} {e : Env} {eh oh : List Chunk}

theorem look_mem' {k : Nat} {v : Value} {e : Env} (h : Look e k v) : (k, v) ∈ e := by
  induction h with
  | here => exact List.mem_cons_self
  | there _ ih => exact List.mem_cons_of_mem _ ih
theorem argsR_len {φ : Phi} {ps : List Par} {z : prodT (ps.map Par.ty)} {vals : List Value} {gs : List (Nat × Nat)} {hs : List Chunk} (h : ArgsR φ ps z vals gs hs) : vals.length = ps.length := by
  induction h with
  | nil => rfl
  | val _ _ _ ih => simp [ih]
  | cfn _ ih => simp [ih]
  | obj _ _ ih => simp [ih]
theorem DsR.mono' {φ' : Phi} {ds : List D} {vs : List Value} {hh : List Chunk} (h : DsR W ds vs hh) (hle : W.φ.le φ') : DsR ⟨φ', W.adr, W.hd⟩ ds vs hh := by
  induction h with
  | nil => exact .nil
  | cons h1 _ ih => exact .cons (h1.same hle rfl rfl) ih
theorem _root_.Go.Eng.Fr.tmps {a : Act} {N : Nat} {e : Env} (h : Fr a N e) {ts : List Nat} : ∀ {vs : List Value}, EVA e (ts.map Operand.tmp) vs → vs = ts.map fun t => a.tmps.getD t undef := by
  induction ts with
  | nil => intro vs h1; cases h1; rfl
  | cons t r ih =>
    intro vs h1
    cases h1 with
    | cons h2 h3 =>
      rw [List.map_cons, ← ih h3]
      congr 1
      cases h2 with
      | t hl => exact (h.look hl).symm

def parKeys : Nat → List Par → List (Nat × Nat)
  | _, [] => []
  | i, .val _ :: r => parKeys (i + 1) r
  | i, .cfn _ :: r => parKeys (i + 1) r
  | i, .obj tid _ _ _ :: r => (i, tid) :: parKeys (i + 1) r

theorem EnvR.upd' {l : List (Nat × D)} {hs : List Chunk} (h : EnvR W l e hs) {j g : Nat} {cs : List Value} (hl : ∀ p ∈ l, (∃ t x, p.2 = .v t x) ∨ (∃ g, p.2 = .fn g) ∨ (∃ i q o, i ≠ j ∧ p.2 = .ref i q o)) : EnvR ⟨W.φ, upd W.adr j g, upd W.hd j cs⟩ l e hs := by
  induction h with
  | nil => exact .nil
  | @cons k d v h hs l e h1 _ ih =>
    refine .cons ?_ (ih fun p hp => hl p (List.mem_cons_of_mem _ hp))
    rcases hl _ List.mem_cons_self with ⟨t, x, hd⟩ | ⟨g, hd⟩ | ⟨i, q, o, hi, hd⟩
    · have hd : d = .v t x := hd
      subst hd; exact h1
    · have hd : d = .fn g := hd
      subst hd; exact h1
    · have hd : d = .ref i q o := hd
      subst hd
      refine ⟨?_, h1.2⟩
      have : upd W.adr j g i = W.adr i := by unfold upd; rw [if_neg hi]
      show v = .pointer (some ⟨upd W.adr j g i, o, none⟩)
      rw [this]; exact h1.1

theorem enterE_ok {φ : Phi} : ∀ (ps : List Par) (i : Nat) (z : prodT (ps.map Par.ty)) (vals : List Value) (gs : List (Nat × Nat)) (hs : List Chunk), ArgsR φ ps z vals gs hs →
    ∃ adr hd e eh oh, EnvR ⟨φ, adr, hd⟩ (enterE i ps z).env e eh ∧ ObR ⟨φ, adr, hd⟩ (enterE i ps z).objs oh ∧ hs.Perm (eh ++ oh) ∧ (∀ p ∈ e, i ≤ p.1 ∧ vals[p.1 - i]? = some p.2) ∧ (e.map (·.1)).Nodup ∧
      ((enterE i ps z).objs.map (·.1)).Nodup ∧ (∀ j ∈ (enterE i ps z).objs.map (·.1), i ≤ j) ∧ (∀ p ∈ (enterE i ps z).env, (∃ t x, p.2 = .v t x) ∨ (∃ g, p.2 = .fn g) ∨ (∃ j q o, i ≤ j ∧ p.2 = .ref j q o)) ∧
      gs = (parKeys i ps).map (fun p => (adr p.1, p.2)) ∧ (∀ p ∈ parKeys i ps, ∃ o, Look e p.1 (.pointer (some ⟨adr p.1, o, none⟩)))
  | [], i, z, vals, gs, hs, h => by
    cases h
    exact ⟨fun _ => 0, fun _ => [], [], [], [], .nil, .nil, List.Perm.refl _, by simp, by simp, by simp [enterE], by simp [enterE], by simp [enterE], rfl, by simp [parKeys]⟩
  | .val t :: r, i, z, vals, gs, hs, h => by
    cases h with
    | @val _ _ _ cs h0 hs' vs gs ht h1 h2 =>
    obtain ⟨adr, hd, e, eh, oh, q1, q2, q3, q4, q5, q6, q7, q8, q9, q10⟩ := enterE_ok r (i + 1) _ _ _ _ h2
    refine ⟨adr, hd, (i, sv t cs) :: e, h0 ++ eh, oh, .cons ⟨cs, ht, rfl, h1⟩ q1, q2, by rw [List.append_assoc]; exact q3.append_left h0, fun p hp => ?_, ?_, q6, fun j hj => Nat.le_of_succ_le (q7 j hj), fun p hp => ?_, q9, fun p hp => (let ⟨o, ho⟩ := q10 p hp; ⟨o, .there ho⟩)⟩
    · rcases List.mem_cons.1 hp with rfl | hp
      · simp
      · obtain ⟨g1, g2⟩ := q4 p hp
        refine ⟨by omega, ?_⟩
        rw [show p.1 - i = (p.1 - (i + 1)) + 1 by omega, List.getElem?_cons_succ]
        exact g2
    · simp only [List.map_cons, List.nodup_cons]
      refine ⟨fun hm => ?_, q5⟩
      obtain ⟨p, hp, hpi⟩ := List.mem_map.1 hm
      have := (q4 p hp).1
      omega
    · rcases List.mem_cons.1 hp with rfl | hp
      · exact .inl ⟨_, _, rfl⟩
      · exact (q8 p hp).imp id (Or.imp id fun ⟨j, q, o, hj, he⟩ => ⟨j, q, o, by omega, he⟩)
  | .cfn g :: r, i, z, vals, gs, hs, h => by
    cases h with
    | @cfn _ _ _ hs' vs gs h2 =>
    obtain ⟨adr, hd, e, eh, oh, q1, q2, q3, q4, q5, q6, q7, q8, q9, q10⟩ := enterE_ok r (i + 1) _ _ _ _ h2
    refine ⟨adr, hd, (i, .func (.func g) #[] #[]) :: e, [] ++ eh, oh, .cons ⟨rfl, rfl⟩ q1, q2, by simpa using q3, fun p hp => ?_, ?_, q6, fun j hj => Nat.le_of_succ_le (q7 j hj), fun p hp => ?_, q9, fun p hp => (let ⟨o, ho⟩ := q10 p hp; ⟨o, .there ho⟩)⟩
    · rcases List.mem_cons.1 hp with rfl | hp
      · simp
      · obtain ⟨g1, g2⟩ := q4 p hp
        refine ⟨by omega, ?_⟩
        rw [show p.1 - i = (p.1 - (i + 1)) + 1 by omega, List.getElem?_cons_succ]
        exact g2
    · simp only [List.map_cons, List.nodup_cons]
      refine ⟨fun hm => ?_, q5⟩
      obtain ⟨p, hp, hpi⟩ := List.mem_map.1 hm
      have := (q4 p hp).1
      omega
    · rcases List.mem_cons.1 hp with rfl | hp
      · exact .inr (.inl ⟨_, rfl⟩)
      · exact (q8 p hp).imp id (Or.imp id fun ⟨j, q, o, hj, he⟩ => ⟨j, q, o, by omega, he⟩)
  | .obj tid t t' p0 :: r, i, z, vals, gs, hs, h => by
    cases h with
    | @obj _ _ _ _ _ _ cs h0 hs' vs g gs h1 h2 =>
    obtain ⟨adr, hd, e, eh, oh, q1, q2, q3, q4, q5, q6, q7, q8, q9, q10⟩ := enterE_ok r (i + 1) _ _ _ _ h2
    have hki : i ∉ (enterE (i + 1) r (tailP (r.map Par.ty) z)).objs.map (·.1) := fun h => by have := q7 i h; omega
    have hkp : ∀ p ∈ parKeys (i + 1) r, upd adr i g p.1 = adr p.1 := fun p hp => by
      obtain ⟨_, h3⟩ := q10 p hp
      have : i ≠ p.1 := fun e' => by
        have h4 := q4 _ (look_mem' h3)
        have : p.1 = i := e'.symm
        simp only at h4
        omega
      unfold upd; rw [if_neg fun e => this e.symm]
    refine ⟨upd adr i g, upd hd i cs, (i, .pointer (some ⟨g, offP t p0, none⟩)) :: e, [] ++ eh, (blk g tid cs :: h0) ++ oh, .cons ⟨by show _ = Value.pointer (some ⟨upd adr i g i, offP t p0, none⟩); rw [upd_self], rfl⟩ (EnvR.upd' (W := ⟨φ, adr, hd⟩) q1 fun p hp => ?_), .cons ⟨h0, ?_, ?_⟩ (ObR.other (W := ⟨φ, adr, hd⟩) q2 hki g cs), ?_, fun p hp => ?_, ?_, ?_, fun j hj => ?_, fun p hp => ?_, ?_, fun p hp => ?_⟩
    · exact (q8 p hp).imp id (Or.imp id fun ⟨j, q, o, hj, he⟩ => ⟨j, q, o, by omega, he⟩)
    · show Rp φ t _ (upd hd i cs i) h0
      rw [upd_self]; exact h1
    · show _ = blk (upd adr i g i) tid (upd hd i cs i) :: h0
      rw [upd_self, upd_self]
    · rw [List.nil_append]
      exact ((q3.append_left (blk g tid cs :: h0))).trans (List.perm_append_comm_assoc _ _ _)
    · rcases List.mem_cons.1 hp with rfl | hp
      · simp
      · obtain ⟨g1, g2⟩ := q4 p hp
        refine ⟨by omega, ?_⟩
        rw [show p.1 - i = (p.1 - (i + 1)) + 1 by omega, List.getElem?_cons_succ]
        exact g2
    · simp only [List.map_cons, List.nodup_cons]
      refine ⟨fun hm => ?_, q5⟩
      obtain ⟨p, hp, hpi⟩ := List.mem_map.1 hm
      have := (q4 p hp).1
      omega
    · simp only [enterE, List.map_cons, List.nodup_cons]
      exact ⟨hki, q6⟩
    · simp only [enterE, List.map_cons, List.mem_cons] at hj
      rcases hj with rfl | hj
      · exact Nat.le_refl _
      · exact Nat.le_of_succ_le (q7 j hj)
    · rcases List.mem_cons.1 hp with rfl | hp
      · exact .inr (.inr ⟨i, _, _, Nat.le_refl _, rfl⟩)
      · exact (q8 p hp).imp id (Or.imp id fun ⟨j, q, o, hj, he⟩ => ⟨j, q, o, by omega, he⟩)
    · simp only [parKeys, List.map_cons, upd_self]
      rw [q9]
      congr 1
      exact List.map_congr_left fun p hp => by rw [hkp p hp]
    · rcases List.mem_cons.1 hp with rfl | hp
      · rw [upd_self]; exact ⟨_, .here⟩
      · rw [hkp p hp]; obtain ⟨o, ho⟩ := q10 p hp; exact ⟨o, .there ho⟩

theorem outE_ok {dead : List Nat} {g : Nat → List Chunk} (hO : ∀ j ob, look S.objs j = some ob → ObOk W j ob (g j)) : ∀ (ps : List Par) (i : Nat) (y : prodT (outs ps)), outE dead S i ps = some y →
    ∃ h2, ObsR W.φ ((parKeys i ps).map fun p => (W.adr p.1, p.2)) (unProd (outs ps) y) h2 ∧ Sub (((parKeys i ps).map (·.1)).flatMap g) h2 ∧ (∀ p ∈ parKeys i ps, (∃ q o, look S.env p.1 = some (.ref p.1 q o)) ∧ p.1 ∉ dead ∧ p.1 ∈ S.objs.map (·.1) ∧ i ≤ p.1) ∧ ((parKeys i ps).map (·.1)).Nodup
  | [], i, y, _ => ⟨[], .nil, Sub.refl _, by simp [parKeys], by simp [parKeys]⟩
  | .val t :: r, i, y, h => by
    obtain ⟨h2, q1, q2, q3, q4⟩ := outE_ok hO r (i + 1) y h
    exact ⟨h2, q1, q2, fun p hp => ⟨(q3 p hp).1, (q3 p hp).2.1, (q3 p hp).2.2.1, by have := (q3 p hp).2.2.2; omega⟩, q4⟩
  | .cfn g :: r, i, y, h => by
    obtain ⟨h2, q1, q2, q3, q4⟩ := outE_ok hO r (i + 1) y h
    exact ⟨h2, q1, q2, fun p hp => ⟨(q3 p hp).1, (q3 p hp).2.1, (q3 p hp).2.2.1, by have := (q3 p hp).2.2.2; omega⟩, q4⟩
  | .obj tid t t' p0 :: r, i, y, h => by
    unfold outE at h
    split at h
    case h_2 => cases h
    case h_1 j q0 o0 hl =>
    cases hb : Nat.beq j i with
    | false => rw [hb] at h; cases h
    | true =>
    have hji := Nat.eq_of_beq_eq_true hb
    subst hji
    rw [hb] at h
    cases hm : mem j dead with
    | true => rw [hm] at h; cases h
    | false =>
    rw [hm] at h
    simp only [cond_true, cond_false] at h
    cases hx : objOf S j tid t' with
    | none => rw [hx] at h; cases h
    | some x =>
    cases hy : outE dead S (j + 1) r with
    | none => rw [hx, hy] at h; cases h
    | some y' =>
    rw [hx, hy] at h
    injection h with h
    subst h
    obtain ⟨h2, q1, q2, q3, q4⟩ := outE_ok hO r (j + 1) y' hy
    unfold objOf at hx
    split at hx
    case h_2 => cases hx
    case h_1 tid' t2 x' hob =>
    cases hb2 : Nat.beq tid' tid with
    | false => rw [hb2] at hx; cases hx
    | true =>
    rw [hb2] at hx
    have hb2 := Nat.eq_of_beq_eq_true hb2
    subst hb2
    obtain ⟨h0, g1, g2⟩ := hO _ _ hob
    have g2 : g j = blk (W.adr j) tid' (W.hd j) :: h0 := g2
    obtain ⟨h0', g3, g4⟩ := coe_ok hx g1
    refine ⟨(blk (W.adr j) tid' (W.hd j) :: h0') ++ h2, ?_, ?_, ?_, ?_⟩
    · have : unProd (outs (.obj tid' t t' p0 :: r)) (consP (a := t') (outs r) x y') = ⟨t', x⟩ :: unProd (outs r) y' := unProd_cons x y'
      rw [this]
      exact .cons g3 q1
    · simp only [parKeys, List.map_cons, List.flatMap_cons]
      rw [g2]
      exact Sub.app (Sub.cons g4) q2
    · intro p hp
      rcases List.mem_cons.1 hp with rfl | hp
      · exact ⟨⟨_, _, hl⟩, mem_not hm, look_mem hob, Nat.le_refl _⟩
      · exact ⟨(q3 p hp).1, (q3 p hp).2.1, (q3 p hp).2.2.1, by have := (q3 p hp).2.2.2; omega⟩
    · simp only [parKeys, List.map_cons, List.nodup_cons]
      refine ⟨fun hm => ?_, q4⟩
      obtain ⟨p, hp, hpi⟩ := List.mem_map.1 hm
      have := (q3 p hp).2.2.2
      omega

theorem finE_ok {dead : List Nat} {ps : List Par} : ∀ (l : List Ty) (ds : List D) (vs : List Value) (hh : List Chunk) (y : prodT (l ++ outs ps)), finE dead S ps l ds = some y → DsR W ds vs hh → (∀ t ∈ l, t.top = true) →
    ∃ h1 y', TupR W.φ ((unProd (l ++ outs ps) y).take l.length) vs h1 ∧ (unProd (l ++ outs ps) y).drop l.length = unProd (outs ps) y' ∧ outE dead S 0 ps = some y' ∧ Sub hh h1
  | [], [], vs, hh, y, h, hd, _ => by
    cases hd
    exact ⟨[], y, .nil, rfl, h, Sub.refl _⟩
  | [], _ :: _, vs, hh, y, h, _, _ => by cases h
  | _ :: _, [], vs, hh, y, h, _, _ => by cases h
  | t :: l, d :: ds, vs, hh, y, h, hd, ht => by
    unfold finE at h
    cases hx : asTy t d with
    | none => rw [hx] at h; cases h
    | some x =>
    cases hy : finE dead S ps l ds with
    | none => rw [hx, hy] at h; cases h
    | some y' =>
    rw [hx, hy] at h
    injection h with h
    subst h
    cases hd with
    | @cons d v h1 h2 ds vs hd1 hd2 =>
    obtain ⟨cs, h1', rfl, q2, q3⟩ := asTy_ok hx hd1
    obtain ⟨h3, y2, g1, g2, g3, g4⟩ := finE_ok l ds vs h2 y' hy hd2 fun t' ht' => ht t' (List.mem_cons_of_mem _ ht')
    have e1 : unProd (t :: l ++ outs ps) (consP (a := t) (l ++ outs ps) x y') = ⟨t, x⟩ :: unProd (l ++ outs ps) y' := unProd_cons x y'
    refine ⟨h1' ++ h3, y2, ?_, ?_, g3, Sub.app q3 g4⟩
    · show TupR W.φ (List.take (l.length + 1) (unProd (t :: l ++ outs ps) (consP (a := t) (l ++ outs ps) x y'))) _ _
      rw [e1, List.take_succ_cons]
      exact .cons (ht t List.mem_cons_self) q2 g1
    · show List.drop (l.length + 1) (unProd (t :: l ++ outs ps) (consP (a := t) (l ++ outs ps) x y')) = _
      rw [e1, List.drop_succ_cons]
      exact g2

theorem cellE_ok (hc : CtxOk P G c) (hf : Fr a N e) {take : Bool} {s ty : Nat} {d : D} {S1 : St} (h : cellE c S take s ty = some (d, S1)) (hs : SRel S W e eh oh) {hv : List Chunk} (hb : Hb C w (hv ++ (eh ++ oh)) (Inv G W.φ)) :
    ∃ v φ' hh eh' oh' ad, a.tmps.getD s undef = .pointer (some ad) ∧ (loadVar ty ad).run P w = .ok v w ∧ W.φ.le φ' ∧ DR ⟨φ', W.adr, W.hd⟩ d v hh ∧ SRel S1 ⟨φ', W.adr, W.hd⟩ e eh' oh' ∧ Hb C w (hv ++ hh ++ (eh' ++ oh')) (Inv G φ') := by
  have hb0 : Hb C w (eh ++ oh) (Inv G W.φ) := (Sub.right (a := hv)).hb hb
  unfold cellE at h
  generalize hx : S.get (.tmp s) = dx at h
  split at h
  case h_2 => cases h
  case h_1 j p off =>
  have hev := hf.ev (get_ref hs.env hx)
  have hev : a.tmps.getD s undef = .pointer (some ⟨W.adr j, off, none⟩) := hev
  split at h
  · rename_i el t l i hat hi
    split at h
    case isFalse => cases h
    case isTrue he =>
    split at h
    case h_2 => cases h
    case h_1 y S2 hop =>
    simp only [Option.some.injEq, Prod.mk.injEq] at h
    obtain ⟨rfl, rfl⟩ := h
    obtain ⟨tb, pre, mid, post, hm, q1, q2, q3, q4, _⟩ := atC_cells hs.obs hat
    have hrun := load_run (hc.ty _ _ hi) he q3 (.inr ⟨_, _, rfl⟩) q2 (tb := tb) (pre := pre) (post := post) (w := w) (by rw [← q1]; exact hb0.has (List.mem_append_right _ q4))
    obtain ⟨t', l', rfl, v', φ', oh', g1, g2, g3, g4, g5⟩ := openx_ok hop hs hb
    obtain ⟨A, cc, css, m1, _⟩ := id q3
    have hv' : sv (.mr el t) mid = v' := by
      rw [q1, ← q2, m1] at g1
      simp at g1
      rw [m1, ← g1]; rfl
    exact ⟨_, φ', [], eh, oh', _, hev, hrun, g2, ⟨[v'], rfl, by rw [hv']; rfl, g3⟩, g4, by simpa using g5⟩
  · rename_i t y i _ hat hi
    split at h
    case isFalse => cases h
    case isTrue he =>
    cases htop : t.top with
    | false => rw [htop] at h; cases h
    | true =>
    rw [htop] at h
    simp only [cond_true] at h
    split at h
    case h_2 => cases h
    case h_1 y' hy =>
    split at h
    case h_2 => cases h
    case h_1 S2 hset =>
    obtain ⟨mid, hm, oh', r1, r2, r3, r4⟩ := take_ok (C := C) (G := G) (hc.ty _ _ hi) hat he htop hy hset hs
    cases take with
    | true =>
      simp only [cond_true, Option.some.injEq, Prod.mk.injEq] at h
      obtain ⟨rfl, rfl⟩ := h
      refine ⟨_, W.φ, hm, eh, oh', _, hev, r4 w hb0, W.φ.le_refl, ⟨mid, htop, rfl, r1⟩, r2, hb.perm ?_⟩
      rw [List.append_assoc]
      exact List.Perm.append_left hv ((List.Perm.append_left eh r3).trans (List.perm_append_comm_assoc _ _ _))
    | false =>
      simp only [cond_false, Option.some.injEq, Prod.mk.injEq] at h
      obtain ⟨rfl, rfl⟩ := h
      obtain ⟨h', p1, _⟩ := coe_ok hy r1
      have := Rp.er_nil (Ty.er_er t).symm p1
      subst this
      exact ⟨_, W.φ, [], eh, oh, _, hev, r4 w hb0, W.φ.le_refl, ⟨mid, coe_top hy htop, coe_sv hy mid, p1⟩, hs, by simpa using hb⟩
  · cases h
theorem resE_ok (hc : CtxOk P G c) (hf : Fr a N e) : ∀ (ts : List Ty) (l : List ResultVar) (S : St) (ds : List D) (S1 : St) (W : Wit) (eh oh hv : List Chunk), resE c S ts l = some (ds, S1) → SRel S W e eh oh → Hb C w (hv ++ (eh ++ oh)) (Inv G W.φ) →
    ∃ vs φ' hh eh' oh', ResRun P a.tmps w l vs ∧ W.φ.le φ' ∧ DsR ⟨φ', W.adr, W.hd⟩ ds vs hh ∧ SRel S1 ⟨φ', W.adr, W.hd⟩ e eh' oh' ∧ Hb C w (hv ++ hh ++ (eh' ++ oh')) (Inv G φ')
  | [], [], S, ds, S1, W, eh, oh, hv, h, hs, hb => by
    simp only [resE, Option.some.injEq, Prod.mk.injEq] at h
    obtain ⟨rfl, rfl⟩ := h
    exact ⟨[], W.φ, [], eh, oh, .nil, W.φ.le_refl, .nil, hs, by simpa using hb⟩
  | [], _ :: _, S, ds, S1, W, eh, oh, hv, h, hs, hb => by cases h
  | _ :: _, [], S, ds, S1, W, eh, oh, hv, h, hs, hb => by cases h
  | t :: ts, .tmp s :: l, S, ds, S1, W, eh, oh, hv, h, hs, hb => by
    unfold resE at h
    split at h
    case h_2 => cases h
    case h_1 d S2 hu =>
    split at h
    case h_2 => cases h
    case h_1 ds' S3 hr =>
    simp only [Option.some.injEq, Prod.mk.injEq] at h
    obtain ⟨rfl, rfl⟩ := h
    obtain ⟨v, φ1, h1, eh1, oh1, q1, q2, q3, q4, q5⟩ := useT_ok hu hs hb
    obtain ⟨vs, φ2, h2, eh2, oh2, g1, g2, g3, g4, g5⟩ := resE_ok hc hf ts l _ _ _ _ _ _ _ hr q4 q5
    have hv' : v = a.tmps.getD s undef := (hf.ev q1).symm
    subst hv'
    exact ⟨_ :: vs, φ2, h1 ++ h2, eh2, oh2, .tmp g1, Phi.le_trans q2 g2, .cons (q3.same g2 rfl rfl) g3, g4, by simpa [List.append_assoc] using g5⟩
  | t :: ts, .cell s ty :: l, S, ds, S1, W, eh, oh, hv, h, hs, hb => by
    unfold resE at h
    split at h
    case h_2 => cases h
    case h_1 d S2 hu =>
    split at h
    case h_2 => cases h
    case h_1 ds' S3 hr =>
    simp only [Option.some.injEq, Prod.mk.injEq] at h
    obtain ⟨rfl, rfl⟩ := h
    obtain ⟨v, φ1, h1, eh1, oh1, ad, q0, q1, q2, q3, q4, q5⟩ := cellE_ok hc hf hu hs hb
    obtain ⟨vs, φ2, h2, eh2, oh2, g1, g2, g3, g4, g5⟩ := resE_ok hc hf ts l _ _ _ _ _ _ _ hr q4 q5
    exact ⟨v :: vs, φ2, h1 ++ h2, eh2, oh2, .cell q0 q1 g1, Phi.le_trans q2 g2, .cons (q3.same g2 rfl rfl) g3, g4, by simpa [List.append_assoc] using g5⟩

/-- a function's entry -/
theorem fn_ok (hm : P.follows .mixedOrders = true) (hc : CtxOk P G c) {f : FuncId} {fn : Func} {code : Code} {an : Ann} {ps : List Par} {rs : List Ty} {slots : List ResultVar} (hfn : P.funcs[f]? = some fn) (hbody : fn.body = some code) (hname : (fn.name == "runtime.NumGoroutine") = false)
    (hN : fn.ntmps = c.n) (hres : fn.results = slots.toArray) (hpl : ps.length ≤ c.n) (hpt : ∀ t, Par.val t ∈ ps → t.top = true) (hrt : ∀ t ∈ rs, t.top = true)
    {F : prodT (ps.map Par.ty) → Option (prodT (rs ++ outs ps))} (hF : ∀ z r, F z = some r → fnE c code an ps rs slots z = some r) : EntryOk P G f ⟨ps, rs, F⟩ := by
  refine ⟨GoFn.mk fn hfn hname (by rw [hbody]; rfl), hpt, fun z r hz C φ vals gs hs ha hb => ?_⟩
  have hz := hF z r hz
  have ha : ArgsR φ ps z vals gs hs := ha
  obtain ⟨adr, hd, e, eh, oh, q1, q2, q3, q4, q5, q6, q7, q8, q9, q10⟩ := enterE_ok ps 0 z vals gs hs ha
  have hvl : vals.length = ps.length := argsR_len ha
  refine calls_of_wp hfn hbody ?_
  have hf0 : Fr { tmps := vals.toArray ++ Array.replicate (fn.ntmps - vals.toArray.size) undef, defers := [] } c.n e := by
    refine ⟨?_, rfl, fun p hp => ?_, q5⟩
    · simp [hN]; omega
    · have h1 := (q4 p hp).2
      simp only [Nat.sub_zero] at h1
      have h2 := (List.getElem?_eq_some_iff.1 h1).1
      simp only [Array.getD_eq_getD_getElem?]
      rw [Array.getElem?_append_left (by simpa using h2)]
      simp [h1]
  have hb0 : Hb C C.w0 (eh ++ oh) (Inv G φ) := hb.perm q3
  have hat : At c.n C (fun w => G w ∧ Agree φ w) (enterE 0 ps z) { tmps := vals.toArray ++ Array.replicate (fn.ntmps - vals.toArray.size) undef, defers := [] } C.w0 :=
    ⟨⟨φ, adr, hd⟩, e, eh, oh, ⟨q1, q2, q6⟩, hf0, hb0.imp fun w hw => ⟨⟨hw.1, hw.2⟩, hw.2⟩⟩
  refine codeE_ok hm rfl code an _ _ _ r hz (fun w => G w ∧ Agree φ w) hc.more (fun a => ∀ t, t ∉ dsts code → a.tmps[t]? = (vals.toArray ++ Array.replicate (fn.ntmps - vals.toArray.size) undef)[t]?) (fun t ht v a' h' s hs => ?_) _ (fun x S hx a w hat ha => ?_) _ _ hat (fun _ _ => rfl)
  · rw [put_other fun e => (by subst e; exact hs ht)]; exact h' s hs
  have fin : (match resE c S rs slots with | some (ds, S1) => finE (dsts code) S1 ps rs ds | none => none) = some r →
      a.defers = [] ∧ ∃ v, (results fn a.tmps).run P w = .ok v w ∧ ∃ v' φ' h1 h2, Ending.returned v = .returned v' ∧ φ.le φ' ∧ Hb C w (h1 ++ h2) (Inv G φ') ∧ ResR φ' ((unProd (rs ++ outs ps) r).take rs.length) v' h1 ∧ ObsR φ' gs ((unProd (rs ++ outs ps) r).drop rs.length) h2 := by
    intro hx
    split at hx
    case h_2 => cases hx
    case h_1 ds S1 hu =>
    obtain ⟨W, e1, eh1, oh1, t1, t2, t3⟩ := hat
    obtain ⟨vs, φ1, hh, eh2, oh2, u1, u2, u3, u4, u5⟩ := resE_ok (G := fun w => G w ∧ Agree φ w) hc.more t2 rs slots _ _ _ _ _ _ [] hu t1 (by simpa using t3)
    obtain ⟨g, g1, g2⟩ := u4.obs.fam u4.nd
    have hInv := u5.get
    let φ2 : Phi := φ1.join φ
    have le1 : φ1.le φ2 := fun x v hx => by show (match φ1 x with | some v => some v | none => φ x) = some v; rw [hx]
    have le2 : φ.le φ2 := fun x v hx => by
      show (match φ1 x with | some v => some v | none => φ x) = some v
      cases h : φ1 x with
      | none => exact hx
      | some u =>
        have h1 := hInv.2 x u h
        have h2 := hInv.1.2 x v hx
        rw [h1] at h2
        exact h2
    obtain ⟨h1, y', p1, p2, p3, p4⟩ := finE_ok (W := ⟨φ2, W.adr, W.hd⟩) rs ds vs hh r hx (u3.mono' le1) hrt
    obtain ⟨h2, o1, o2, o3, o4⟩ := outE_ok (W := ⟨φ2, W.adr, W.hd⟩) (g := g) (fun j ob hj => by
      obtain ⟨h0, s1, s2⟩ := g1 _ (look_pair hj)
      exact ⟨h0, s1.mono le1, s2⟩) ps 0 y' p3
    have hadr : ∀ p ∈ parKeys 0 ps, W.adr p.1 = adr p.1 := fun p hp => by
      obtain ⟨⟨_, _, s1⟩, s2, s3, _⟩ := o3 p hp
      obtain ⟨v, h', _, l1, l2, _⟩ := u4.env.look s1
      obtain ⟨rfl, _⟩ := l2
      have e3 := t2.look l1
      obtain ⟨_, e40⟩ := q10 p hp
      have e4 := hf0.look e40
      rw [Array.getD_eq_getD_getElem?, ha _ s2, ← Array.getD_eq_getD_getElem?] at e3
      have e5 := e4.symm.trans e3
      simp only [Value.pointer.injEq, Option.some.injEq, Addr.mk.injEq] at e5
      exact e5.1.symm
    refine ⟨t2.defers, _, results_ok hres u1, _, φ2, h1, h2, rfl, le2, ?_, ⟨vs, p1, rfl⟩, ?_⟩
    · have hsub : Sub (([] ++ hh) ++ (eh2 ++ oh2)) (h1 ++ h2) := by
        rw [List.nil_append]
        refine Sub.app p4 (Sub.right.trans ?_)
        rw [g2]
        have hk := (keys_split u4.nd o4 (fun j hj => by
          obtain ⟨p, hp, rfl⟩ := List.mem_map.1 hj
          exact (o3 p hp).2.2.1)).flatMap_right (f := g)
        rw [List.flatMap_append] at hk
        exact (Sub.perm hk).trans (Sub.left.trans o2)
      refine (hsub.hb u5).imp fun w' hw' => ⟨hw'.1.1, fun x v hx => ?_⟩
      have hx : (match φ1 x with | some v => some v | none => φ x) = some v := hx
      cases h : φ1 x with
      | none => rw [h] at hx; exact hw'.1.2 x v hx
      | some u => rw [h] at hx; exact hw'.2 x v (h.trans hx)
    · rw [p2, q9]
      have : (parKeys 0 ps).map (fun p => (adr p.1, p.2)) = (parKeys 0 ps).map (fun p => (W.adr p.1, p.2)) := List.map_congr_left fun p hp => by rw [hadr p hp]
      rw [this]
      exact o1
  cases x with
  | nrm => exact fin hx
  | ret => exact fin hx
  | ext i => cases hx
/-- a function that answers nil, or a pointer into an array of the object that is handed to it -/
theorem ip_ok (hm : P.follows .mixedOrders = true) (hc : CtxOk P G c) {f : FuncId} {fn : Func} {code : Code} {an : Ann} {tid : Nat} {t : Ty} {p0 p : List Dir} {o sz slot : Nat} (hfn : P.funcs[f]? = some fn) (hbody : fn.body = some code) (hname : (fn.name == "runtime.NumGoroutine") = false)
    (hN : fn.ntmps = c.n) (hres : fn.results = [ResultVar.tmp slot].toArray) (hpl : 1 ≤ c.n) (hfl : t.flat = true)
    {F : t.den → Option (Option Nat)} (hF : ∀ z m, F z = some m → ipE c code an tid t p0 p o sz slot z = some (m, z)) : IpOk P G f ⟨tid, t, p0, p, o, sz, F⟩ := by
  refine ⟨GoFn.mk fn hfn hname (by rw [hbody]; rfl), hfl, fun z m hz C φ g0 cs hrp hb => ?_⟩
  have hz := hF z m hz
  have hrp : Rp φ t z cs [] := hrp
  have hcs := (flat_ok hfl hrp).1
  have ha : ArgsR φ [.obj tid t t p0] z [Value.pointer (some ⟨g0, offP t p0, none⟩)] [(g0, tid)] [blk g0 tid cs] := ArgsR.obj (r := []) (h := []) (hs := []) hrp .nil
  obtain ⟨adr, hd, e, eh, oh, q1, q2, q3, q4, q5, q6, q7, q8, q9, q10⟩ := enterE_ok [.obj tid t t p0] 0 z _ _ _ ha
  have hadr0 : adr 0 = g0 := by
    have h9 : [(g0, tid)] = [(adr 0, tid)] := q9
    injection h9 with h9 _
    injection h9 with h9 _
    exact h9.symm
  refine calls_of_wp hfn hbody ?_
  have hf0 : Fr { tmps := [Value.pointer (some ⟨g0, offP t p0, none⟩)].toArray ++ Array.replicate (fn.ntmps - ([Value.pointer (some ⟨g0, offP t p0, none⟩)].toArray).size) undef, defers := [] } c.n e := by
    refine ⟨?_, rfl, fun p hp => ?_, q5⟩
    · simp [hN]; omega
    · have h1 := (q4 p hp).2
      simp only [Nat.sub_zero] at h1
      have h2 := (List.getElem?_eq_some_iff.1 h1).1
      simp only [Array.getD_eq_getD_getElem?]
      rw [Array.getElem?_append_left (by simpa using h2)]
      simp [h1]
  have hb0 : Hb C C.w0 (eh ++ oh) (Inv G φ) := hb.perm q3
  have hat : At c.n C (fun w => G w ∧ Agree φ w) (enterE 0 [.obj tid t t p0] z) { tmps := [Value.pointer (some ⟨g0, offP t p0, none⟩)].toArray ++ Array.replicate (fn.ntmps - ([Value.pointer (some ⟨g0, offP t p0, none⟩)].toArray).size) undef, defers := [] } C.w0 :=
    ⟨⟨φ, adr, hd⟩, e, eh, oh, ⟨q1, q2, q6⟩, hf0, hb0.imp fun w hw => ⟨⟨hw.1, hw.2⟩, hw.2⟩⟩
  refine codeE_ok hm rfl code an _ _ _ _ hz (fun w => G w ∧ Agree φ w) hc.more (fun a => ∀ t, t ∉ dsts code → a.tmps[t]? = ([Value.pointer (some ⟨g0, offP _ p0, none⟩)].toArray ++ Array.replicate (fn.ntmps - ([Value.pointer (some ⟨g0, offP _ p0, none⟩)].toArray).size) undef)[t]?) (fun t ht v a' h' s hs => ?_) _ (fun x S hx a w hat ha => ?_) _ _ hat (fun _ _ => rfl)
  · rw [put_other fun e => (by subst e; exact hs ht)]; exact h' s hs
  have fin : (match ipD p o sz (S.get (.tmp slot)), outE (dsts code) S 0 [.obj tid t t p0] with | some m, some y => some (m, (y : t.den)) | _, _ => none) = some (m, z) →
      a.defers = [] ∧ ∃ v, (results fn a.tmps).run P w = .ok v w ∧ (Ending.returned v = .returned (elV g0 o sz 0 m) ∧ Hb C w [blk g0 tid cs] (Inv G φ)) := by
    intro hx
    split at hx
    case h_2 => cases hx
    case h_1 m' y' hip hout =>
    simp only [Option.some.injEq, Prod.mk.injEq] at hx
    obtain ⟨rfl, rfl⟩ := hx
    obtain ⟨W, e1, eh1, oh1, t1, t2, t3⟩ := hat
    have hne : S.get (.tmp slot) ≠ .und := fun e => by rw [e] at hip; cases hip
    obtain ⟨v, u1, u2⟩ := get_nil t1.env rfl hne
    obtain ⟨g, g1, g2⟩ := t1.obs.fam t1.nd
    obtain ⟨h2, o1, o2, o3, o4⟩ := outE_ok (g := g) (fun j ob hj => by
      obtain ⟨h0, s1, s2⟩ := g1 _ (look_pair hj)
      exact ⟨h0, s1, s2⟩) [.obj tid t t p0] 0 z hout
    have hadr : W.adr 0 = g0 := by
      obtain ⟨⟨_, _, s1⟩, s2, s3, _⟩ := o3 (0, tid) (by simp [parKeys])
      obtain ⟨v, h', _, l1, l2, _⟩ := t1.env.look s1
      obtain ⟨rfl, _⟩ := l2
      have e3 := t2.look l1
      obtain ⟨_, e40⟩ := q10 (0, tid) (by simp [parKeys])
      have e4 := hf0.look e40
      rw [Array.getD_eq_getD_getElem?, ha _ s2, ← Array.getD_eq_getD_getElem?] at e3
      have e5 := e4.symm.trans e3
      simp only [Value.pointer.injEq, Option.some.injEq, Addr.mk.injEq] at e5
      rw [← e5.1]; exact hadr0
    have hv : v = elV g0 o sz 0 m := by
      generalize S.get (.tmp slot) = d at hip u2
      unfold ipD at hip
      split at hip
      · injection hip with hip
        subst hip
        exact u2.1
      · rename_i j p' o' m'' sz'
        cases hbb : (Nat.beq j 0 && Nat.beq o o' && Nat.beq sz sz' && dirsB p p') with
        | false => rw [hbb] at hip; cases hip
        | true =>
          rw [hbb] at hip
          injection hip with hip
          simp only [Bool.and_eq_true] at hbb
          have b1 := Nat.eq_of_beq_eq_true hbb.1.1.1
          have b2 := Nat.eq_of_beq_eq_true hbb.1.1.2
          have b3 := Nat.eq_of_beq_eq_true hbb.1.2
          subst hip b1 b2 b3
          rw [← hadr]
          exact u2.1
      · cases hip
    have o1' : ObsR W.φ [(W.adr 0, tid)] [⟨t, z⟩] h2 := o1
    rw [hadr] at o1'
    cases o1' with
    | @cons _ _ _ _ cs2 h hs2 _ _ r1 r2 =>
    cases r2
    obtain ⟨c1, c2⟩ := flat_ok hfl r1
    subst c2
    have hcc : cs2 = cs := by rw [c1, hcs]
    subst hcc
    refine ⟨t2.defers, _, results_ok hres (.tmp .nil), ?_, ?_⟩
    · have h9 : a.tmps.getD slot undef = v := t2.ev u1
      show Ending.returned (a.tmps.getD slot undef) = _
      rw [h9, hv]
    · have hsub : Sub (eh1 ++ oh1) [blk g0 tid cs2] := by
        refine Sub.right.trans ?_
        rw [g2]
        have hk := (keys_split t1.nd o4 (fun j hj => by
          obtain ⟨p, hp, rfl⟩ := List.mem_map.1 hj
          exact (o3 p hp).2.2.1)).flatMap_right (f := g)
        rw [List.flatMap_append] at hk
        exact (Sub.perm hk).trans (Sub.left.trans o2)
      exact (hsub.hb t3).imp fun w' hw' => hw'.1
  cases x with
  | nrm => exact fin hx
  | ret => exact fin hx
  | ext i => cases hx
end
end Go.Lf
/-
  A table of types, tried.
-/
namespace Go.Lf
open Go Go.Eng

/-- the zero of a type, cell by cell -/
def eqz : Value → Value → Bool
  | .int k a, .int k' b => decide (k = k') && decide (a = b)
  | .bool a, .bool b => (a && b) || (!a && !b)
  | .string a, .string b => (match a.data.toList with | [] => true | _ => false) && (match b.data.toList with | [] => true | _ => false)
  | .slice none 0 0, .slice none 0 0 => true
  | .pointer none, .pointer none => true
  | .nilIface, .nilIface => true
  | _, _ => false
def eqzs : List Value → List Value → Bool
  | [], [] => true
  | a :: l, b :: m => eqz a b && eqzs l m
  | _, _ => false
theorem empty_bytes {a : ByteArray} (h : (match a.data.toList with | [] => true | _ => false) = true) : a = ⟨#[]⟩ := by
  split at h
  · rename_i he
    cases a with
    | mk d =>
      congr 1
      exact Array.toList_inj.1 (by rw [he])
  · cases h
theorem eqz_ok {a b : Value} (h : eqz a b = true) : a = b := by
  unfold eqz at h
  split at h
  · simp only [Bool.and_eq_true, decide_eq_true_eq] at h
    rw [h.1, h.2]
  · rename_i a b
    cases a <;> cases b <;> first | rfl | cases h
  · simp only [Bool.and_eq_true] at h
    rw [empty_bytes h.1, empty_bytes h.2]
  · rfl
  · rfl
  · rfl
  · cases h
theorem eqzs_ok : ∀ {a b : List Value}, eqzs a b = true → a = b
  | [], [], _ => rfl
  | a :: l, b :: m, h => by
    unfold eqzs at h
    simp only [Bool.and_eq_true] at h
    rw [eqz_ok h.1, eqzs_ok h.2]
  | [], _ :: _, h => by cases h
  | _ :: _, [], h => by cases h
def tZB (P : Program) (t : Nat) (z : List Value) : Bool := match P.info? t with
  | some i => match i.zero with
    | some v => eqzs v.cells.toList z
    | none => false
  | none => false
theorem tZB_ok {P : Program} {t : Nat} {z : List Value} (h : tZB P t z = true) : tZ P t z := by
  unfold tZB at h
  split at h
  case h_2 => cases h
  case h_1 i hi =>
  split at h
  case h_2 => cases h
  case h_1 v hv =>
  exact ⟨i, v, hi, hv, by rw [← eqzs_ok h]⟩
def appB (P : Program) (t el size bytes : Nat) : Bool := (match P.underlying t with | some (.slice e') => Nat.beq e' el | _ => false) && (match P.info? el with
  | some i => (match i.zero with | some z => Nat.beq i.size size && Nat.beq i.bytes bytes && Nat.beq z.cells.size size && Nat.blt 0 size | none => false)
  | none => false)
theorem appB_ok {P : Program} {t el size bytes : Nat} (h : appB P t el size bytes = true) : AppTy P t el size bytes := by
  unfold appB at h
  simp only [Bool.and_eq_true] at h
  obtain ⟨h1, h2⟩ := h
  split at h1
  case h_2 => cases h1
  case h_1 e' hu =>
  have h1 := Nat.eq_of_beq_eq_true h1
  subst h1
  split at h2
  case h_2 => cases h2
  case h_1 i hi =>
  split at h2
  case h_2 => cases h2
  case h_1 z hz =>
  simp only [Bool.and_eq_true] at h2
  obtain ⟨⟨⟨g1, g2⟩, g3⟩, g4⟩ := h2
  exact ⟨i, z, hu, hi, hz, Nat.eq_of_beq_eq_true g1, Nat.eq_of_beq_eq_true g2, Nat.eq_of_beq_eq_true g3, by simpa [Nat.blt_eq] using g4⟩
def allB (p : Nat → Bool) : Nat → Bool
  | 0 => true
  | n + 1 => allB p n && p n
theorem allB_ok {p : Nat → Bool} : ∀ {n : Nat}, allB p n = true → ∀ i, i < n → p i = true
  | 0, _, i, hi => by omega
  | n + 1, h, i, hi => by
    unfold allB at h
    simp only [Bool.and_eq_true] at h
    rcases Nat.lt_succ_iff_lt_or_eq.1 hi with h2 | rfl
    · exact allB_ok h.1 i h2
    · exact h.2
def someB {α : Type} : Option α → Bool | some _ => true | none => false
def tyB (P : Program) (id : Nat) (i : TyI) : Bool :=
  decide (i.ty = i.ty.er) && tSz P id i.ty.size && someB (P.underlying id) && (bif someB (zero i.ty) then tZB P id (zcells i.ty) else true) && match i.ty with
    | .int k => tSc P id && tInt P id k
    | .bool => tSc P id && tBo P id
    | .str => tSc P id && tStr P id
    | .sl t => tSc P id && tSl P id i.el t.size && appB P id i.el t.size i.sz && (bif decide (t = .int .u8) then tByt P id i.el else true) && decide (t = t.er) && Nat.blt 0 i.sz && (bif someB (zero t) then tZB P i.el (zcells t) else true)
    | .st t => tAg P id t.size && match i.sz with
      | 0 => allB (fun f => tFo P id f (offP t (fpath t f)) && match getTy t (fpath t f) with | some s => tFz P id f s.size | none => true) (nf t) && match P.underlying id with | some (.struct fs) => tStruct P fs | _ => false
      | n + 1 => match arEl t, P.underlying id with
        | some a, some (.array m e) => decide (t = arT a (n + 1)) && Nat.beq m (n + 1) && Nat.beq e i.el && tSz P i.el a.size && (match a with | .st b => tAg P i.el b.size | .int k => tSc P i.el && tInt P i.el k | _ => tSc P i.el)
        | _, _ => false
    | .eb _ _ => tSc P id && (tIf P id && tZi P id)
    | .ptr _ => tSc P id && (tPt P id && tZp P id)
    | _ => false
theorem someB_ok {α : Type} {x : Option α} (h : someB x = true) : ∃ y, x = some y := by
  cases x with
  | none => cases h
  | some y => exact ⟨y, rfl⟩
theorem someB_is {α : Type} {x : Option α} (h : x.isSome = true) : someB x = true := by
  cases x with
  | none => cases h
  | some y => rfl
theorem tyB_ok {P : Program} {id : Nat} {i : TyI} (h : tyB P id i = true) : TyOk P id i := by
  obtain ⟨ty, el, sz⟩ := i
  unfold tyB at h
  simp only [Bool.and_eq_true, decide_eq_true_eq] at h
  obtain ⟨⟨⟨⟨h1, h2⟩, h3⟩, h4⟩, h5⟩ := h
  have hz : (zero ty).isSome = true → tZ P id (zcells ty) := fun hs => by
    rw [someB_is hs] at h4
    exact tZB_ok h4
  have hu := someB_ok h3
  cases ty with
  | int k =>
    simp only [Bool.and_eq_true] at h5
    exact ⟨h1, h2, fun _ => h5.1, fun k' e => (by cases e; exact h5.2), fun e => (by cases e), fun e => (by cases e), fun t e => (by cases e), fun t e => (by cases e), fun t e => (by cases e), fun t e => (by cases e), fun _ _ e => (by cases e), fun _ e => (by cases e), hu, hz⟩
  | bool =>
    simp only [Bool.and_eq_true] at h5
    exact ⟨h1, h2, fun _ => h5.1, fun k' e => (by cases e), fun e => h5.2, fun e => (by cases e), fun t e => (by cases e), fun t e => (by cases e), fun t e => (by cases e), fun t e => (by cases e), fun _ _ e => (by cases e), fun _ e => (by cases e), hu, hz⟩
  | str =>
    simp only [Bool.and_eq_true] at h5
    exact ⟨h1, h2, fun _ => h5.1, fun k' e => (by cases e), fun e => (by cases e), fun e => h5.2, fun t e => (by cases e), fun t e => (by cases e), fun t e => (by cases e), fun t e => (by cases e), fun _ _ e => (by cases e), fun _ e => (by cases e), hu, hz⟩
  | eb te t =>
    simp only [Bool.and_eq_true] at h5
    exact ⟨h1, h2, fun _ => h5.1, fun k' e => (by cases e), fun e => (by cases e), fun e => (by cases e), fun t e => (by cases e), fun t e => (by cases e), fun t e => (by cases e), fun t e => (by cases e), fun _ _ e => by simpa using h5.2, fun _ e => (by cases e), hu, hz⟩
  | ptr t =>
    simp only [Bool.and_eq_true] at h5
    exact ⟨h1, h2, fun _ => h5.1, fun k' e => (by cases e), fun e => (by cases e), fun e => (by cases e), fun t e => (by cases e), fun t e => (by cases e), fun t e => (by cases e), fun t e => (by cases e), fun _ _ e => (by cases e), fun _ e => by simpa using h5.2, hu, hz⟩
  | sl t =>
    simp only [Bool.and_eq_true, decide_eq_true_eq] at h5
    obtain ⟨⟨⟨⟨⟨⟨g1, g2⟩, g3⟩, g4⟩, g5⟩, g6⟩, g7⟩ := h5
    refine ⟨h1, h2, fun _ => g1, fun k' e => (by cases e), fun e => (by cases e), fun e => (by cases e), fun t' e => ?_, fun t e => (by cases e), fun t e => (by cases e), fun t e => (by cases e), fun _ _ e => (by cases e), fun _ e => (by cases e), hu, hz⟩
    cases e
    refine ⟨g2, appB_ok g3, fun ht => ?_, g5, by simpa [Nat.blt_eq] using g6, fun hs => ?_⟩
    · rw [decide_eq_true ht] at g4; exact g4
    · rw [someB_is hs] at g7
      exact tZB_ok g7
  | st t =>
    simp only [Bool.and_eq_true] at h5
    obtain ⟨g1, g3⟩ := h5
    refine ⟨h1, h2, fun hn => absurd rfl (hn t), fun k' e => (by cases e), fun e => (by cases e), fun e => (by cases e), fun t' e => (by cases e), fun t' e => (by cases e; exact g1), fun t' e hz => ?_, fun t' e hz => ?_, fun _ _ e => (by cases e), fun _ e => (by cases e), hu, hz⟩
    · cases e
      have hz : sz = 0 := hz
      subst hz
      simp only [Bool.and_eq_true] at g3
      obtain ⟨g2, g3⟩ := g3
      have g2 := allB_ok g2
      refine ⟨fun f hf => ?_, ?_⟩
      · have := g2 f hf
        simp only [Bool.and_eq_true] at this
        exact this.1
      · split at g3
        · rename_i fs hfs
          refine ⟨fs, hfs, g3, fun f s hf hs => ?_⟩
          have := g2 f hf
          simp only [Bool.and_eq_true, hs] at this
          exact this.2
        · cases g3
    · cases e
      have hz : 0 < sz := hz
      cases sz with
      | zero => omega
      | succ n =>
      simp only at g3
      split at g3
      case h_2 => cases g3
      case h_1 a m e0 ha hu2 =>
      simp only [Bool.and_eq_true, decide_eq_true_eq] at g3
      obtain ⟨⟨⟨⟨k1, k2⟩, k3⟩, k4⟩, k5⟩ := g3
      have k2 := Nat.eq_of_beq_eq_true k2
      have k3 := Nat.eq_of_beq_eq_true k3
      subst k2 k3
      refine ⟨a, k1, hu2, k4, fun hn => ?_, fun b hb => ?_, fun k hk => ?_⟩
      · split at k5
        · exact absurd rfl (hn _)
        · simp only [Bool.and_eq_true] at k5
          exact k5.1
        · exact k5
      · subst hb
        exact k5
      · subst hk
        simp only [Bool.and_eq_true] at k5
        exact k5.2
  | _ => cases h5

def tysB (P : Program) : List (Nat × TyI) → Bool
  | [] => true
  | (id, i) :: r => tyB P id i && tysB P r
theorem tysB_ok {P : Program} : ∀ {l : List (Nat × TyI)}, tysB P l = true → ∀ id i, look l id = some i → TyOk P id i
  | [], _, id, i, h => by cases h
  | (id', i') :: r, hb, id, i, h => by
    unfold tysB at hb
    simp only [Bool.and_eq_true] at hb
    rw [look_cons] at h
    split at h
    · rename_i he
      simp only [Option.some.injEq] at h
      subst he h
      exact tyB_ok hb.1
    · exact tysB_ok hb.2 id i h

/-- what is known of functions, one by one -/
inductive FnsOk (P : Program) (G : World → Prop) : List (Nat × Entry) → Prop
  | nil : FnsOk P G []
  | cons {f : Nat} {e : Entry} {l : List (Nat × Entry)} : EntryOk P G f e → FnsOk P G l → FnsOk P G ((f, e) :: l)
theorem FnsOk.look {P : Program} {G : World → Prop} {l : List (Nat × Entry)} (h : FnsOk P G l) : ∀ f e, Lf.look l f = some e → EntryOk P G f e := by
  induction h with
  | nil => intro f e h; cases h
  | cons h1 _ ih =>
    intro f e h
    rw [look_cons] at h
    split at h
    · rename_i he
      simp only [Option.some.injEq] at h
      subst he h
      exact h1
    · exact ih f e h
inductive IpsOk (P : Program) (G : World → Prop) : List (Nat × Ip) → Prop
  | nil : IpsOk P G []
  | cons {f : Nat} {e : Ip} {l : List (Nat × Ip)} : IpOk P G f e → IpsOk P G l → IpsOk P G ((f, e) :: l)
theorem IpsOk.look {P : Program} {G : World → Prop} {l : List (Nat × Ip)} (h : IpsOk P G l) : ∀ f e, Lf.look l f = some e → IpOk P G f e := by
  induction h with
  | nil => intro f e h; cases h
  | cons h1 _ ih =>
    intro f e h
    rw [look_cons] at h
    split at h
    · rename_i he
      simp only [Option.some.injEq] at h
      subst he h
      exact h1
    · exact ih f e h
end Go.Lf
/-
  Functions that call themselves.
-/
namespace Go.Lf
open Go Go.Eng

open Classical in
/-- an answer that some number of rounds gives -/
noncomputable def supC {α : Type} (g : Nat → Option α) : Option α := if h : ∃ k n, g n = some k then some (Classical.choose h) else none
theorem supC_some {α : Type} {g : Nat → Option α} {r : α} (h : supC g = some r) : ∃ n, g n = some r := by
  unfold supC at h
  split at h
  · rename_i he
    simp only [Option.some.injEq] at h
    rw [← h]
    exact Classical.choose_spec he
  · cases h
theorem supC_of {α : Type} {g : Nat → Option α} {r : α} {n : Nat} (h : g n = some r) (hu : ∀ m s, g m = some s → s = r) : supC g = some r := by
  unfold supC
  have he : ∃ k n, g n = some k := ⟨r, n, h⟩
  rw [dif_pos he]
  obtain ⟨m, hm⟩ := Classical.choose_spec he
  rw [hu m _ hm]
theorem rec_ok {P : Program} {G : World → Prop} {f : Nat} {ps : List Par} {rs : List Ty} {N : Nat → prodT (ps.map Par.ty) → Option (prodT (rs ++ outs ps))} (fn : Func) (hfn : P.funcs[f]? = some fn) (hname : (fn.name == "runtime.NumGoroutine") = false) (hb : fn.body.isNone = false) (hpt : ∀ t, Par.val t ∈ ps → t.top = true) (h0 : ∀ z, N 0 z = none)
    (hs : ∀ n, EntryOk P G f ⟨ps, rs, N n⟩ → EntryOk P G f ⟨ps, rs, N (n + 1)⟩) : EntryOk P G f ⟨ps, rs, fun z => supC fun n => N n z⟩ := by
  have all : ∀ n, EntryOk P G f ⟨ps, rs, N n⟩ := fun n => by
    induction n with
    | zero => exact ⟨GoFn.mk fn hfn hname hb, hpt, fun z r hz => by
        have hz : N 0 z = some r := hz
        rw [h0] at hz; cases hz⟩
    | succ n ih => exact hs n ih
  refine ⟨GoFn.mk fn hfn hname hb, hpt, fun z r hz => ?_⟩
  obtain ⟨n, hn⟩ := supC_some (show supC (fun n => N n z) = some r from hz)
  exact (all n).ok z r hn
theorem FnsOk.con {P : Program} {G : World → Prop} {p : Nat × Entry} {l : List (Nat × Entry)} (h : EntryOk P G p.1 p.2) (hl : FnsOk P G l) : FnsOk P G (p :: l) := .cons h hl
theorem IpsOk.con {P : Program} {G : World → Prop} {p : Nat × Ip} {l : List (Nat × Ip)} (h : IpOk P G p.1 p.2) (hl : IpsOk P G l) : IpsOk P G (p :: l) := .cons h hl
/-- the object comes back as it was -/
def Same {β : Type} (z : β) (x : Option (Option Nat × β)) : Prop := x = (x.map (·.1)).map fun m => (m, z)
theorem Same.none {β : Type} {z : β} : Same z (Option.none : Option (Option Nat × β)) := rfl
theorem Same.some {β : Type} {z : β} {m : Option Nat} : Same z (Option.some (m, z)) := rfl
theorem Same.cond {β : Type} {z : β} (b : Bool) {x y : Option (Option Nat × β)} (hx : Same z x) (hy : Same z y) : Same z (bif b then x else y) := by cases b <;> assumption
theorem Same.bind {α β : Type} {z : β} (x : Option α) {f : α → Option (Option Nat × β)} (h : ∀ a, Same z (f a)) : Same z (x.bind f) := by
  cases x with
  | none => rfl
  | some a => exact h a
theorem Same.get {β : Type} {z : β} {x : Option (Option Nat × β)} (h : Same z x) {m : Option Nat} (hm : x.map (·.1) = Option.some m) : x = Option.some (m, z) := by
  rw [h, hm]; rfl
end Go.Lf
/-
  With a bound on every loop: what is reckoned so, is so.
-/
namespace Go.Lf
open Go

def Le {α : Type} (x y : Option α) : Prop := ∀ r, x = some r → y = some r
def onSum {α β γ : Type} (d : α ⊕ β) (f : α → γ) (g : β → γ) : γ := match d with
  | .inl a => f a
  | .inr b => g b
noncomputable def loopF (n : Nat) {σ κ : Type} (B : σ → Option (σ ⊕ κ)) (z : σ) : Option κ := iter B n z
section
variable {α β γ σ κ : Type}
theorem Le.refl {x : Option α} : Le x x := fun _ h => h
theorem Le.trans {x y z : Option α} (h : Le x y) (h' : Le y z) : Le x z := fun r hr => h' r (h r hr)
theorem Le.bind {x y : Option α} {f g : α → Option β} (h : Le x y) (hf : ∀ a, Le (f a) (g a)) : Le (x.bind f) (y.bind g) := fun r hr => by
  obtain ⟨a, h1, h2⟩ := Option.bind_eq_some_iff.1 hr
  exact Option.bind_eq_some_iff.2 ⟨a, h a h1, hf a r h2⟩
theorem Le.cond {b : Bool} {x y x' y' : Option α} (h : Le x x') (h' : Le y y') : Le (cond b x y) (cond b x' y') := by cases b <;> assumption
theorem Le.onSum {d : α ⊕ β} {f f' : α → Option γ} {g g' : β → Option γ} (h : ∀ a, Le (f a) (f' a)) (h' : ∀ a, Le (g a) (g' a)) : Le (onSum d f g) (onSum d f' g') := by
  cases d
  · exact h _
  · exact h' _
theorem iter_le {B B' : σ → Option (σ ⊕ κ)} (h : ∀ z, Le (B z) (B' z)) : ∀ (n m : Nat), n ≤ m → ∀ z, Le (iter B n z) (iter B' m z)
  | 0, _, _, _ => fun r hr => by cases hr
  | n + 1, 0, hm, _ => by omega
  | n + 1, m + 1, hm, z => by
    unfold iter
    refine Le.bind (h z) fun a => ?_
    cases a with
    | inl z' => exact iter_le h n m (by omega) z'
    | inr k => exact Le.refl
theorem loopC_some {B : σ → Option (σ ⊕ κ)} {z : σ} {k : κ} (h : loopC B z = some k) : ∃ n, iter B n z = some k := by
  unfold loopC at h
  split at h
  · rename_i he
    simp only [Option.some.injEq] at h
    rw [← h]
    exact Classical.choose_spec he
  · cases h
theorem loopC_of {B : σ → Option (σ ⊕ κ)} {z : σ} {k : κ} {n : Nat} (h : iter B n z = some k) : loopC B z = some k := by
  unfold loopC
  have he : ∃ k n, iter B n z = some k := ⟨k, n, h⟩
  rw [dif_pos he]
  obtain ⟨m, hm⟩ := Classical.choose_spec he
  have h1 := iter_le (fun z => Le.refl (x := B z)) m (max m n) (Nat.le_max_left _ _) z _ hm
  have h2 := iter_le (fun z => Le.refl (x := B z)) n (max m n) (Nat.le_max_right _ _) z _ h
  rw [h1] at h2
  exact h2
theorem Le.loop {n : Nat} {B B' : σ → Option (σ ⊕ κ)} {z : σ} (h : ∀ z, Le (B z) (B' z)) : Le (loopF n B z) (loopC B' z) := fun _ hr => loopC_of (iter_le h n n (Nat.le_refl _) z _ hr)
theorem Le.loopC {B B' : σ → Option (σ ⊕ κ)} {z : σ} (h : ∀ z, Le (B z) (B' z)) : Le (loopC B z) (loopC B' z) := fun _ hr => by
  obtain ⟨n, hn⟩ := loopC_some hr
  exact loopC_of (iter_le h n n (Nat.le_refl _) z _ hn)
/-- a loop, one round -/
theorem loopC_step {B : σ → Option (σ ⊕ κ)} {z : σ} : loopC B z = (B z).bind fun | .inl z' => loopC B z' | .inr k => some k := by
  have h1 : ∀ r, loopC B z = some r → ((B z).bind fun | .inl z' => loopC B z' | .inr k => some k) = some r := fun r hr => by
    obtain ⟨n, hn⟩ := loopC_some hr
    cases n with
    | zero => cases hn
    | succ n =>
      unfold iter at hn
      obtain ⟨a, h1, h2⟩ := Option.bind_eq_some_iff.1 hn
      refine Option.bind_eq_some_iff.2 ⟨a, h1, ?_⟩
      cases a with
      | inl z' => exact loopC_of h2
      | inr k => exact h2
  have h2 : ∀ r, ((B z).bind fun | .inl z' => loopC B z' | .inr k => some k) = some r → loopC B z = some r := fun r hr => by
    obtain ⟨a, h1, h2⟩ := Option.bind_eq_some_iff.1 hr
    cases a with
    | inl z' =>
      obtain ⟨n, hn⟩ := loopC_some h2
      exact loopC_of (n := n + 1) (by unfold iter; rw [h1]; exact hn)
    | inr k => exact loopC_of (n := 1) (by unfold iter; rw [h1]; exact h2)
  cases h : loopC B z with
  | some r => exact (h1 r h).symm
  | none =>
    cases h' : (B z).bind fun | .inl z' => loopC B z' | .inr k => some k with
    | none => rfl
    | some r => rw [h2 r h'] at h; cases h
/-- rounds of a function that calls itself -/
theorem sup_le {g : Nat → Option α} (hm : ∀ n, Le (g n) (g (n + 1))) (n : Nat) : Le (g n) (supC g) := fun r hr => by
  have up : ∀ k m, Le (g m) (g (m + k)) := fun k => by
    induction k with
    | zero => exact fun m => Le.refl
    | succ k ih => exact fun m => (ih m).trans (hm _)
  refine supC_of hr fun m s hs => ?_
  have h1 := up m n r hr
  have h2 := up n m s hs
  rw [Nat.add_comm] at h2
  rw [h1] at h2
  injection h2 with h2
  exact h2.symm
end
end Go.Lf
/-
  Loops over lists, plainly.
-/
namespace Go.Lf
open Go

theorem wrap64 {x : Int} (h0 : -9223372036854775808 ≤ x) (h1 : x ≤ 9223372036854775807) : IntKind.wrap .i64 x = x := by
  simp only [IntKind.wrap]
  simp [IntKind.bits, IntKind.signed]
  omega
theorem wrapS {n : Nat} (h : n < 9223372036854775807) : IntKind.wrap .i64 ((n : Int) + 1) = ((n + 1 : Nat) : Int) := by
  rw [wrap64 (by omega) (by omega)]; omega
theorem idx_nat {α : Type} (l : List α) (i : Nat) : idx l (i : Int) = l[i]? := by
  unfold idx
  rw [if_pos (by omega)]; rfl
theorem sub_nat {α : Type} {l : List α} {a b : Nat} (h : a ≤ b) (hb : b ≤ l.length) : sub l (a : Int) (b : Int) = some ((l.drop a).take (b - a)) := by
  unfold sub
  rw [if_pos (by omega)]; rfl
theorem app_of {α : Type} {b : Nat} {l m : List α} (h : (l.length + m.length) * b ≤ 140737488355328) : app b l m = some (l ++ m) := if_pos h
theorem cat_of {l m : List UInt8} (h : l.length + m.length ≤ 9223372036854775807) : cat l m = some (l ++ m) := if_pos h
section
variable {α σ κ : Type}
/-- a list, one by one -/
def foldE (step : α → σ → Option (σ ⊕ κ)) (fin : σ → κ) : List α → σ → Option κ
  | [], s => some (fin s)
  | x :: r, s => (step x s).bind fun d => onSum d (foldE step fin r) some
theorem range_loop {l : List α} {B : Int × σ → Option ((Int × σ) ⊕ κ)} (step : α → σ → Option (σ ⊕ κ)) (fin : σ → κ)
    (h1 : ∀ (i : Nat) x s, l[i]? = some x → B ((i : Int), s) = (step x s).map fun d => onSum d (fun s' => .inl (((i + 1 : Nat) : Int), s')) .inr) (h2 : ∀ s, B ((l.length : Int), s) = some (.inr (fin s))) :
    ∀ (m i : Nat) (s : σ), i + m = l.length → loopC B ((i : Int), s) = foldE step fin (l.drop i) s
  | 0, i, s, h => by
    have : i = l.length := by omega
    subst this
    rw [loopC_step, h2, List.drop_length]
    rfl
  | m + 1, i, s, h => by
    have hlt : i < l.length := by omega
    rw [loopC_step, h1 i l[i] s (List.getElem?_eq_getElem hlt), List.drop_eq_getElem_cons hlt]
    unfold foldE
    cases step l[i] s with
    | none => rfl
    | some d =>
      cases d with
      | inl s' => exact range_loop step fin h1 h2 m (i + 1) s' (by omega)
      | inr k => rfl
/-- a list, one by one, with the elements' numbers -/
def foldI (step : Nat → α → σ → Option (σ ⊕ κ)) (fin : σ → κ) : Nat → List α → σ → Option κ
  | _, [], s => some (fin s)
  | i, x :: r, s => (step i x s).bind fun d => onSum d (foldI step fin (i + 1) r) some
theorem range_loopI {l : List α} {B : Int × σ → Option ((Int × σ) ⊕ κ)} (step : Nat → α → σ → Option (σ ⊕ κ)) (fin : σ → κ)
    (h1 : ∀ (i : Nat) x s, l[i]? = some x → B ((i : Int), s) = (step i x s).map fun d => onSum d (fun s' => .inl (((i + 1 : Nat) : Int), s')) .inr) (h2 : ∀ s, B ((l.length : Int), s) = some (.inr (fin s))) :
    ∀ (m i : Nat) (s : σ), i + m = l.length → loopC B ((i : Int), s) = foldI step fin i (l.drop i) s
  | 0, i, s, h => by
    have : i = l.length := by omega
    subst this
    rw [loopC_step, h2, List.drop_length]
    rfl
  | m + 1, i, s, h => by
    have hlt : i < l.length := by omega
    rw [loopC_step, h1 i l[i] s (List.getElem?_eq_getElem hlt), List.drop_eq_getElem_cons hlt]
    unfold foldI
    cases step i l[i] s with
    | none => rfl
    | some d =>
      cases d with
      | inl s' => exact range_loopI step fin h1 h2 m (i + 1) s' (by omega)
      | inr k => rfl
theorem range_loopI0 {l : List α} {B : Int → Option (Int ⊕ κ)} (step : Nat → α → Option (Unit ⊕ κ)) (fin : κ)
    (h1 : ∀ (i : Nat) x, l[i]? = some x → B (i : Int) = (step i x).map fun d => onSum d (fun _ => .inl ((i + 1 : Nat) : Int)) .inr) (h2 : B (l.length : Int) = some (.inr fin)) :
    ∀ (m i : Nat), i + m = l.length → loopC B (i : Int) = foldI (fun i x (_ : Unit) => step i x) (fun _ => fin) i (l.drop i) ()
  | 0, i, h => by
    have : i = l.length := by omega
    subst this
    rw [loopC_step, h2, List.drop_length]
    rfl
  | m + 1, i, h => by
    have hlt : i < l.length := by omega
    rw [loopC_step, h1 i l[i] (List.getElem?_eq_getElem hlt), List.drop_eq_getElem_cons hlt]
    unfold foldI
    cases step i l[i] with
    | none => rfl
    | some d =>
      cases d with
      | inl s' => exact range_loopI0 step fin h1 h2 m (i + 1) (by omega)
      | inr k => rfl
/-- the same of a loop whose state is the number alone -/
theorem range_loop0 {l : List α} {B : Int → Option (Int ⊕ κ)} (step : α → Option (Unit ⊕ κ)) (fin : κ)
    (h1 : ∀ (i : Nat) x, l[i]? = some x → B (i : Int) = (step x).map fun d => onSum d (fun _ => .inl ((i + 1 : Nat) : Int)) .inr) (h2 : B (l.length : Int) = some (.inr fin)) :
    ∀ (m i : Nat), i + m = l.length → loopC B (i : Int) = foldE (fun x (_ : Unit) => step x) (fun _ => fin) (l.drop i) ()
  | 0, i, h => by
    have : i = l.length := by omega
    subst this
    rw [loopC_step, h2, List.drop_length]
    rfl
  | m + 1, i, h => by
    have hlt : i < l.length := by omega
    rw [loopC_step, h1 i l[i] (List.getElem?_eq_getElem hlt), List.drop_eq_getElem_cons hlt]
    unfold foldE
    cases step l[i] with
    | none => rfl
    | some d =>
      cases d with
      | inl s' => exact range_loop0 step fin h1 h2 m (i + 1) (by omega)
      | inr k => rfl
end
end Go.Lf
/- Chapter 16, plainly: instructions as bytes, and back. -/
namespace Go.Fn
open Go Go.Lf

/-- octet's number: of the bytes that stand there, at the i-th group, with what was taken so far. -/
def numS : List UInt8 → Nat → Nat → Except Int (Nat × Nat)
  | [], _, _ => .error 30
  | x :: r, i, acc =>
    if 9 < i ∨ (i = 9 ∧ 1 < x.toNat) then .error 31
    else if x.toNat < 128 then (if x.toNat = 0 ∧ 0 < i then .error 31 else .ok (acc + x.toNat * 128 ^ i, i + 1))
    else numS r (i + 1) (acc + (x.toNat % 128) * 128 ^ i)
def uintS (n : Nat) : List UInt8 := if h : n < 128 then [UInt8.ofNat n] else UInt8.ofNat (n % 128 + 128) :: uintS (n / 128)
theorem uint_lo {n : Nat} (h : n < 128) : uintS n = [UInt8.ofNat n] := by rw [uintS, dif_pos h]
theorem uint_hi {n : Nat} (h : ¬ n < 128) : uintS n = UInt8.ofNat (n % 128 + 128) :: uintS (n / 128) := by rw [uintS, dif_neg h]
theorem uint_len : ∀ (k n : Nat), n < 128 ^ (k + 1) → (uintS n).length ≤ k + 1
  | 0, n, h => by rw [uint_lo (by omega)]; exact Nat.le_refl _
  | k + 1, n, h => by
    by_cases h1 : n < 128
    · rw [uint_lo h1]; simp
    · rw [uint_hi h1]
      have := uint_len k (n / 128) (by rw [Nat.pow_succ] at h; omega)
      simp only [List.length_cons]; omega
theorem uint_pos (n : Nat) : 0 < (uintS n).length := by
  by_cases h : n < 128
  · rw [uint_lo h]; exact Nat.one_pos
  · rw [uint_hi h]; exact Nat.succ_pos _
theorem byte_nat {n : Nat} (h : n < 256) : (UInt8.ofNat n).toNat = n := by
  rw [UInt8.toNat_ofNat']; omega
theorem num_uint : ∀ (n v i acc : Nat) (r : List UInt8), v < 128 ^ n → i + n ≤ 9 → (0 < i → 0 < v) → numS (uintS v ++ r) i acc = .ok (acc + v * 128 ^ i, i + (uintS v).length)
  | 0, v, i, acc, r, hv, hi, h0 => by
    have : v = 0 := by rw [Nat.pow_zero] at hv; omega
    subst this
    have : i = 0 := by omega
    subst this
    rw [uint_lo (by omega)]
    show numS (UInt8.ofNat 0 :: r) 0 acc = _
    unfold numS
    rw [byte_nat (by omega), if_neg (by omega), if_pos (by omega), if_neg (by omega)]
    rfl
  | n + 1, v, i, acc, r, hv, hi, h0 => by
    by_cases h : v < 128
    · rw [uint_lo h]
      show numS (UInt8.ofNat v :: r) i acc = _
      unfold numS
      rw [byte_nat (by omega), if_neg (by omega), if_pos h, if_neg (by omega)]
      rfl
    · rw [uint_hi h]
      show numS (UInt8.ofNat (v % 128 + 128) :: (uintS (v / 128) ++ r)) i acc = _
      unfold numS
      rw [byte_nat (by omega), if_neg (by omega), if_neg (by omega)]
      rw [num_uint n (v / 128) (i + 1) _ r (by rw [Nat.pow_succ] at hv; omega) (by omega) (by omega)]
      congr 2
      · rw [show (v % 128 + 128) % 128 = v % 128 by omega, Nat.pow_succ, show v / 128 * (128 ^ i * 128) = (128 * (v / 128)) * 128 ^ i by
          rw [Nat.mul_comm (128 ^ i) 128, ← Nat.mul_assoc, Nat.mul_comm (v / 128) 128], Nat.add_assoc, ← Nat.add_mul]
        congr 2
        omega
      · simp only [List.length_cons]; omega
theorem byte_of (x : UInt8) {n : Nat} (h : x.toNat = n) : x = UInt8.ofNat n := by rw [← h]; simp
theorem num_canon : ∀ (l : List UInt8) (i acc v k : Nat), numS l i acc = .ok (v, k) → ∃ w r, v = acc + w * 128 ^ i ∧ k = i + (uintS w).length ∧ l = uintS w ++ r ∧ (0 < i → 0 < w)
  | [], i, acc, v, k, h => by cases h
  | x :: l, i, acc, v, k, h => by
    unfold numS at h
    split at h
    · cases h
    · split at h
      · rename_i h1 h2
        split at h
        · cases h
        · rename_i h3
          injection h with h
          injection h with ha hb
          refine ⟨x.toNat, l, ha.symm, ?_, ?_, by omega⟩
          · rw [uint_lo h2]; exact hb.symm
          · rw [uint_lo h2, ← byte_of x rfl]; rfl
      · rename_i h1 h2
        obtain ⟨w, r, h3, h4, h5, h6⟩ := num_canon l (i + 1) _ v k h
        have hx := x.toNat_lt
        have hw := h6 (by omega)
        have hu : ¬ (x.toNat % 128 + w * 128) < 128 := by omega
        have hq : (x.toNat % 128 + w * 128) / 128 = w := by omega
        have hr : (x.toNat % 128 + w * 128) % 128 + 128 = x.toNat := by omega
        refine ⟨x.toNat % 128 + w * 128, r, ?_, ?_, ?_, by omega⟩
        · rw [h3, Nat.pow_succ, Nat.add_mul, Nat.add_assoc, Nat.mul_comm (128 ^ i) 128, Nat.mul_assoc w 128]
        · rw [uint_hi hu, hq, h4, List.length_cons]; omega
        · rw [uint_hi hu, hq, hr, ← byte_of x rfl, h5]; rfl
theorem num_err : ∀ (l : List UInt8) (i acc : Nat) (e : Int), numS l i acc = .error e → e = 30 ∨ e = 31
  | [], i, acc, e, h => by injection h with h; exact .inl h.symm
  | x :: l, i, acc, e, h => by
    unfold numS at h
    split at h
    · injection h with h; exact .inr h.symm
    · split at h
      · split at h
        · injection h with h; exact .inr h.symm
        · cases h
      · exact num_err l _ _ e h

/-! ### instructions -/
abbrev Ins := Int × (Int × (Int × (Int × (List Int × Unit))))
def zeroI : Ins := (0, 0, 0, 0, [], ())
def ints (l : List UInt8) : List Int := l.map fun b => (b.toNat : Int)
/-- the operand is looked at, widths are taken -/
def finS (b : List UInt8) (a long kind n : Int) : Ins × Int :=
  if kind = 1 then (if 16383 < n then (zeroI, 161) else ((a, long, kind, n + 1, [], ()), 0))
  else if kind = 2 ∨ kind = 3 ∨ kind = 4 ∨ kind = 10 then ((a, long, kind, n, [], ()), 0)
  else if kind = 8 then ((a, long, kind, n - 1, [], ()), 0)
  else if kind = 12 then
    (if 16 ≤ n then (zeroI, 161) else if (b.length : Int) - (a + long) < n + 1 then (zeroI, 30)
     else ((a, long + (n + 1), kind, 0, ints ((b.drop (a + long).toNat).take (n + 1).toNat), ()), 0))
  else if n ≠ 0 then (zeroI, 161) else ((a, long, kind, 0, [], ()), 0)
def hd (b : List UInt8) (k : Nat) : Nat := (b[k]?.getD 0).toNat
def nextS (b : List UInt8) (a : Int) : Ins × Int :=
  if a < 0 ∨ (b.length : Int) ≤ a then (zeroI, 1)
  else if hd b a.toNat / 16 = 0 then (zeroI, 160)
  else if hd b a.toNat % 16 = 15 then match numS (b.drop (a.toNat + 1)) 0 0 with
    | .error e => (zeroI, e)
    | .ok p => if 2147483632 < p.1 then (zeroI, 161) else finS b a (1 + p.2) ((hd b a.toNat / 16 : Nat) : Int) (p.1 + 15)
  else finS b a 1 ((hd b a.toNat / 16 : Nat) : Int) ((hd b a.toNat % 16 : Nat) : Int)

def wBytes (l : List Int) : List UInt8 := l.map fun x => UInt8.ofNat x.toNat
def putS (k n : Int) : List UInt8 := if n < 15 then [UInt8.ofNat (k * 16 + n).toNat] else UInt8.ofNat (k * 16 + 15).toNat :: uintS (n - 15).toNat
/-- an instruction's operand -/
def opS (k n : Int) (w : List Int) : Int := if k = 1 then n - 1 else if k = 8 then n + 1 else if k = 12 then (w.length : Int) - 1 else n
def encS (k n : Int) (w : List Int) : List UInt8 := putS k (opS k n w) ++ (if k = 12 then wBytes w else [])
def encI (i : Ins) : List UInt8 := encS i.2.2.1 i.2.2.2.1 i.2.2.2.2.1
/-- what may be laid -/
structure LaidI (k n : Int) (w : List Int) : Prop where
  hk : 1 ≤ k ∧ k ≤ 15
  ho : 0 ≤ opS k n w ∧ opS k n w ≤ 2147483647
  hw : (∀ x ∈ w, 0 ≤ x ∧ x ≤ 255) ∧ (k = 12 → n = 0 ∧ 1 ≤ w.length ∧ w.length ≤ 16) ∧ (k ≠ 12 → w = [])
  hn : ¬ (k = 1 ∨ k = 2 ∨ k = 3 ∨ k = 4 ∨ k = 8 ∨ k = 10) → n = 0
/-- what is read again -/
structure GoodI (i : Ins) : Prop where
  l : LaidI i.2.2.1 i.2.2.2.1 i.2.2.2.2.1
  t : i.2.2.1 = 1 → i.2.2.2.1 ≤ 16384
  long : i.2.1 = (encI i).length

theorem ints_w : ∀ {w : List Int}, (∀ x ∈ w, 0 ≤ x ∧ x ≤ 255) → ints (wBytes w) = w
  | [], _ => rfl
  | x :: r, h => by
    have h1 := h x List.mem_cons_self
    have ih := ints_w fun y hy => h y (List.mem_cons_of_mem _ hy)
    show ((UInt8.ofNat x.toNat).toNat : Int) :: ints (wBytes r) = _
    rw [ih, byte_nat (by omega)]
    congr 1
    omega
theorem w_ints : ∀ (l : List UInt8), wBytes (ints l) = l
  | [] => rfl
  | x :: r => by
    show UInt8.ofNat ((x.toNat : Int)).toNat :: wBytes (ints r) = _
    rw [w_ints r, Int.toNat_natCast, ← byte_of x rfl]
theorem ints_bd {l : List UInt8} {x : Int} (h : x ∈ ints l) : 0 ≤ x ∧ x ≤ 255 := by
  obtain ⟨b, _, rfl⟩ := List.mem_map.1 h
  have := b.toNat_lt
  omega
theorem wB_len (w : List Int) : (wBytes w).length = w.length := by simp [wBytes]
theorem ints_len (w : List UInt8) : (ints w).length = w.length := by simp [ints]
theorem put_pos (k n : Int) : 0 < (putS k n).length := by
  unfold putS
  split
  · exact Nat.one_pos
  · exact Nat.succ_pos _
theorem enc_pos (k n : Int) (w : List Int) : 0 < (encS k n w).length := by
  unfold encS
  rw [List.length_append]
  have := put_pos k (opS k n w)
  omega

/-- what was laid is read again, where it may be -/
theorem next_enc {k n : Int} {w : List Int} (h : LaidI k n w) (p r : List UInt8) :
    nextS (p ++ (encS k n w ++ r)) p.length = if k = 1 ∧ 16384 < n then (zeroI, 161) else (((p.length : Int), ((encS k n w).length : Int), k, n, w, ()), 0) := by
  have hk := h.hk
  have ho := h.ho
  have hp := enc_pos k n w
  unfold nextS
  rw [if_neg (by rw [List.length_append, List.length_append]; omega), Int.toNat_natCast]
  have hfin : ∀ (m : Nat) (a b : List UInt8), a.length = m → encS k n w = a ++ b → b = (if k = 12 then wBytes w else []) → 0 < m →
      finS (p ++ (encS k n w ++ r)) p.length m k (opS k n w) = if k = 1 ∧ 16384 < n then (zeroI, 161) else (((p.length : Int), ((encS k n w).length : Int), k, n, w, ()), 0) := by
    intro m a b ha he hb hm
    have hl : (encS k n w).length = m + b.length := by rw [he, List.length_append, ha]
    have hw12 := h.hw.2.1
    have hwn := h.hw.2.2
    have hn := h.hn
    unfold finS
    by_cases h1 : k = 1
    · rw [if_pos h1]
      have hb0 : b = [] := by rw [hb, if_neg (by omega)]
      have hw0 := hwn (by omega)
      have hop : opS k n w = n - 1 := by unfold opS; rw [if_pos h1]
      by_cases h2 : 16384 < n
      · rw [if_pos (by omega), if_pos ⟨h1, h2⟩]
      · rw [if_neg (by omega), if_neg (by omega), hop, hl, hb0, hw0]
        simp
    · rw [if_neg h1, if_neg (c := k = 1 ∧ 16384 < n) (by omega)]
      by_cases h2 : k = 2 ∨ k = 3 ∨ k = 4 ∨ k = 10
      · rw [if_pos h2]
        have hb0 : b = [] := by rw [hb, if_neg (by omega)]
        have hw0 := hwn (by omega)
        have hop : opS k n w = n := by unfold opS; rw [if_neg h1, if_neg (by omega), if_neg (by omega)]
        rw [hop, hl, hb0, hw0]
        simp
      · rw [if_neg h2]
        by_cases h3 : k = 8
        · rw [if_pos h3]
          have hb0 : b = [] := by rw [hb, if_neg (by omega)]
          have hw0 := hwn (by omega)
          have hop : opS k n w = n + 1 := by unfold opS; rw [if_neg h1, if_pos h3]
          rw [hop, hl, hb0, hw0, show n + 1 - 1 = n by omega]
          simp
        · rw [if_neg h3]
          by_cases h4 : k = 12
          · rw [if_pos h4]
            have hbw : b = wBytes w := by rw [hb, if_pos h4]
            obtain ⟨hn0, hl1, hl2⟩ := hw12 h4
            have hop : opS k n w = (w.length : Int) - 1 := by unfold opS; rw [if_neg h1, if_neg h3, if_pos h4]
            have hbl : b.length = w.length := by rw [hbw, wB_len]
            rw [hop, if_neg (by omega), if_neg (by rw [List.length_append, List.length_append, hl, hbl]; omega)]
            have hd1 : ((p.length : Int) + (m : Int)).toNat = p.length + m := by omega
            have hd2 : ((w.length : Int) - 1 + 1).toNat = w.length := by omega
            rw [hd1, hd2, he, ← List.append_assoc, ← List.append_assoc, show p.length + m = (p ++ a).length by rw [List.length_append, ha], List.append_assoc (p ++ a), List.drop_left, hbw]
            rw [List.take_append_of_le_length (by rw [wB_len]; exact Nat.le_refl _), List.take_of_length_le (by rw [wB_len]; exact Nat.le_refl _), ints_w h.hw.1, hn0]
            congr 2
            rw [List.length_append, ha, wB_len]
            congr 1
            omega
          · rw [if_neg h4]
            have hb0 : b = [] := by rw [hb, if_neg (by omega)]
            have hw0 := hwn (by omega)
            have hn0 := hn (by omega)
            have hop : opS k n w = 0 := by unfold opS; rw [if_neg h1, if_neg h3, if_neg h4, hn0]
            rw [if_neg (by omega), hl, hb0, hw0, hn0]
            simp
  have hget : ∀ (x : UInt8) (t : List UInt8), encS k n w = x :: t → hd (p ++ (encS k n w ++ r)) p.length = x.toNat := by
    intro x t hx
    unfold hd
    rw [hx, List.getElem?_append_right (Nat.le_refl _), Nat.sub_self]
    rfl
  by_cases h15 : opS k n w < 15
  · have he : encS k n w = [UInt8.ofNat (k * 16 + opS k n w).toNat] ++ (if k = 12 then wBytes w else []) := by unfold encS putS; rw [if_pos h15]
    have hx := hget _ _ he
    rw [byte_nat (by omega)] at hx
    rw [hx, if_neg (by omega), if_neg (by omega), show (((k * 16 + opS k n w).toNat / 16 : Nat) : Int) = k by omega, show (((k * 16 + opS k n w).toNat % 16 : Nat) : Int) = opS k n w by omega]
    exact hfin 1 _ _ rfl he rfl (by omega)
  · have he : encS k n w = (UInt8.ofNat (k * 16 + 15).toNat :: uintS (opS k n w - 15).toNat) ++ (if k = 12 then wBytes w else []) := by unfold encS putS; rw [if_neg h15]
    have hx := hget _ _ he
    rw [byte_nat (by omega)] at hx
    rw [hx, if_neg (by omega), if_pos (by omega)]
    have hdrop : (p ++ (encS k n w ++ r)).drop (p.length + 1) = uintS (opS k n w - 15).toNat ++ ((if k = 12 then wBytes w else []) ++ r) := by
      rw [he, show p.length + 1 = (p ++ [UInt8.ofNat (k * 16 + 15).toNat]).length by simp]
      rw [show p ++ ((UInt8.ofNat (k * 16 + 15).toNat :: uintS (opS k n w - 15).toNat) ++ (if k = 12 then wBytes w else []) ++ r) = (p ++ [UInt8.ofNat (k * 16 + 15).toNat]) ++ (uintS (opS k n w - 15).toNat ++ ((if k = 12 then wBytes w else []) ++ r)) by simp]
      exact List.drop_left
    rw [hdrop, num_uint 5 _ 0 0 _ (by have : (128 : Nat) ^ 5 = 34359738368 := by decide
                                      omega) (by omega) (by omega)]
    dsimp only
    have hq : (0 + (opS k n w - 15).toNat * 128 ^ 0) = (opS k n w - 15).toNat := by omega
    rw [hq, if_neg (by omega)]
    rw [show (((k * 16 + 15).toNat / 16 : Nat) : Int) = k by omega, show ((opS k n w - 15).toNat : Int) + 15 = opS k n w by omega]
    have := hfin (1 + (uintS (opS k n w - 15).toNat).length) _ _ (by rw [List.length_cons]; omega) he rfl (by omega)
    rw [← this]
    congr 1
    omega

/-- what is read was laid so -/
theorem next_canon {b : List UInt8} {a : Nat} {i : Ins} (h : nextS b a = (i, 0)) : GoodI i ∧ i.1 = a ∧ ∃ p r, p.length = a ∧ b = p ++ (encI i ++ r) := by
  unfold nextS at h
  split at h
  · injection h with _ h; cases h
  rename_i hr
  rw [Int.toNat_natCast] at h
  have hlt : a < b.length := by omega
  have hb : b = b.take a ++ (b[a] :: b.drop (a + 1)) := by rw [← List.drop_eq_getElem_cons hlt, List.take_append_drop]
  have hpl : (b.take a).length = a := by rw [List.length_take]; omega
  have hhd : hd b a = b[a].toNat := by unfold hd; rw [List.getElem?_eq_getElem hlt]; rfl
  rw [hhd] at h
  have hx := b[a].toNat_lt
  generalize hxe : b[a] = x at h hb hx
  split at h
  · injection h with _ h; cases h
  rename_i hk0
  have key : ∀ (m : Nat) (n : Int) (c : List UInt8) (k : Int) (u : List UInt8), k = ((x.toNat / 16 : Nat) : Int) → b = b.take a ++ (c ++ u) → c = putS k n → c.length = m → 0 ≤ n → n ≤ 2147483647 → finS b a m k n = (i, 0) → GoodI i ∧ i.1 = a ∧ ∃ p r, p.length = a ∧ b = p ++ (encI i ++ r) := by
    intro m n c k u hk hbc hc hm hn hn2 hf
    have hkk : 1 ≤ k ∧ k ≤ 15 := by omega
    unfold finS at hf
    have fin : ∀ (v : Int), opS k v [] = n → (k ≠ 12) → (¬ (k = 1 ∨ k = 2 ∨ k = 3 ∨ k = 4 ∨ k = 8 ∨ k = 10) → v = 0) → (k = 1 → v ≤ 16384) → i = ((a : Int), (m : Int), k, v, [], ()) → GoodI i ∧ i.1 = a ∧ ∃ p r, p.length = a ∧ b = p ++ (encI i ++ r) := by
      intro v hv h12 hv0 hv1 hi
      have he : encI i = c := by
        subst hi
        show encS k v [] = c
        unfold encS
        rw [hv, if_neg h12, List.append_nil, hc]
      refine ⟨⟨?_, ?_, ?_⟩, by rw [hi], b.take a, u, hpl, by rw [he]; exact hbc⟩
      · rw [hi]; exact ⟨hkk, by rw [hv]; omega, ⟨fun x hx => (by cases hx), fun hh => absurd hh h12, fun _ => rfl⟩, hv0⟩
      · rw [hi]; exact hv1
      · rw [he, hm, hi]
    split at hf
    · rename_i h1
      split at hf
      · injection hf with _ hf; cases hf
      · injection hf with hf _
        exact fin (n + 1) (by unfold opS; rw [if_pos h1]; omega) (by omega) (by omega) (by omega) hf.symm
    · rename_i h1
      split at hf
      · rename_i h2
        injection hf with hf _
        exact fin n (by unfold opS; rw [if_neg h1, if_neg (by omega), if_neg (by omega)]) (by omega) (by omega) (by omega) hf.symm
      · rename_i h2
        split at hf
        · rename_i h3
          injection hf with hf _
          exact fin (n - 1) (by unfold opS; rw [if_neg h1, if_pos h3]; omega) (by omega) (by omega) (by omega) hf.symm
        · rename_i h3
          split at hf
          · rename_i h4
            split at hf
            · injection hf with _ hf; cases hf
            split at hf
            · injection hf with _ hf; cases hf
            rename_i h5 h6
            injection hf with hf _
            have hu : (b.drop ((a : Int) + (m : Int)).toNat) = u := by
              rw [show ((a : Int) + (m : Int)).toNat = (b.take a ++ c).length by rw [List.length_append, hpl, hm]; omega]
              have := @List.drop_left _ (b.take a ++ c) u
              rw [List.append_assoc, ← hbc] at this
              exact this
            rw [hu] at hf
            have hul : (n + 1).toNat ≤ u.length := by
              have := congrArg List.length hbc
              rw [List.length_append, List.length_append, hpl, hm] at this
              omega
            have hwl : (ints (u.take (n + 1).toNat)).length = (n + 1).toNat := by rw [ints_len, List.length_take]; omega
            have hop : opS k 0 (ints (u.take (n + 1).toNat)) = n := by unfold opS; rw [if_neg h1, if_neg h3, if_pos h4, hwl]; omega
            have he : encI i = c ++ u.take (n + 1).toNat := by
              rw [← hf]
              show encS k 0 _ = _
              unfold encS
              rw [hop, if_pos h4, w_ints, hc]
            refine ⟨⟨?_, ?_, ?_⟩, by rw [← hf], b.take a, u.drop (n + 1).toNat, hpl, ?_⟩
            · rw [← hf]
              refine ⟨hkk, by rw [hop]; omega, ⟨fun x hx => ints_bd hx, fun _ => ⟨rfl, by rw [hwl]; omega, by rw [hwl]; omega⟩, fun hh => absurd h4 hh⟩, fun _ => rfl⟩
            · rw [← hf]; intro hh; exact absurd hh h1
            · rw [he, List.length_append, hm, List.length_take, ← hf]
              show (m : Int) + (n + 1) = _
              omega
            · rw [he, List.append_assoc c, List.take_append_drop]; exact hbc
          · rename_i h4
            split at hf
            · injection hf with _ hf; cases hf
            · rename_i h5
              injection hf with hf _
              exact fin 0 (by unfold opS; rw [if_neg h1, if_neg h3, if_neg h4]; omega) h4 (by omega) (by omega) hf.symm
  split at h
  · rename_i h15
    split at h
    · rename_i e he
      injection h with _ h
      rcases num_err _ _ _ _ he with h1 | h1 <;> omega
    · rename_i p hp
      split at h
      · injection h with _ h; cases h
      · rename_i hbig
        obtain ⟨v, r, h3, h4, h5, _⟩ := num_canon _ 0 0 p.1 p.2 hp
        rw [show 0 + v * 128 ^ 0 = v by omega] at h3
        refine key (1 + (uintS v).length) ((v : Int) + 15) (x :: uintS v) _ r rfl ?_ ?_ (by rw [List.length_cons]; omega) (by omega) (by omega) ?_
        · rw [h5] at hb
          exact hb
        · unfold putS
          rw [if_neg (by omega)]
          congr 1
          · exact byte_of x (by omega)
          · congr 1; omega
        · rw [← h, h3, h4]
          congr 1
          omega
  · rename_i h15
    refine key 1 ((x.toNat % 16 : Nat) : Int) [x] _ (b.drop (a + 1)) rfl hb ?_ rfl (by omega) (by omega) ?_
    · unfold putS
      rw [if_pos (by omega)]
      congr 1
      exact byte_of x (by omega)
    · rw [← h]; rfl
end Go.Fn
/- The shelf's contracts, laid at this program by the kit's tools. -/
namespace Go.Proofs
open Go.Shelf
def Tryd.laysM171_ren : Go.Shelf.Ren := ⟨fun | 171 => 79 | 243 => 100 | 246 => 105 | 283 => 112 | 284 => 113 | 285 => 114 | 286 => 115 | 129 => 126 | 317 => 125 | 318 => 127 | 319 => 128 | 320 => 129 | 337 => 137 | 338 => 138 | n => n, fun | 3 => 3 | 9 => 9 | 2 => 2 | 4 => 4 | 171 => 177 | 0 => 0 | 53 => 113 | 37 => 22 | 5 => 5 | 173 => 180 | 212 => 192 | 51 => 193 | 20 => 20 | 213 => 194 | 46 => 110 | 232 => 215 | 233 => 216 | n => n, fun | 17 => 0 | 18 => 6 | 19 => 7 | n => n⟩
theorem Tryd.laysM171 : Go.Proofs.LaysM.n171 Tryd.prog Tryd.laysM171_ren := {
  mixed := by kernel_rfl
  f129 := Tryd.func126.trans (congrArg some (by kernel_rfl))
  f171 := Tryd.func79.trans (congrArg some (by kernel_rfl))
  f243 := Tryd.func100.trans (congrArg some (by kernel_rfl))
  f246 := Tryd.func105.trans (congrArg some (by kernel_rfl))
  f283 := Tryd.func112.trans (congrArg some (by kernel_rfl))
  f284 := Tryd.func113.trans (congrArg some (by kernel_rfl))
  f285 := Tryd.func114.trans (congrArg some (by kernel_rfl))
  f286 := Tryd.func115.trans (congrArg some (by kernel_rfl))
  f317 := Tryd.func125.trans (congrArg some (by kernel_rfl))
  f318 := Tryd.func127.trans (congrArg some (by kernel_rfl))
  f319 := Tryd.func128.trans (congrArg some (by kernel_rfl))
  f320 := Tryd.func129.trans (congrArg some (by kernel_rfl))
  f337 := Tryd.func137.trans (congrArg some (by kernel_rfl))
  f338 := Tryd.func138.trans (congrArg some (by kernel_rfl))
  t0 := Tryd.underlying0
  a0 := Tryd.isAgg0
  z0 := Tryd.sizeOf0
  v0 := Tryd.zeroValue0
  t2 := Tryd.underlying2
  a2 := Tryd.isAgg2
  z2 := Tryd.sizeOf2
  v2 := Tryd.zeroValue2
  t3 := Tryd.underlying3
  a3 := Tryd.isAgg3
  z3 := Tryd.sizeOf3
  v3 := Tryd.zeroValue3
  t4 := Tryd.underlying4
  a4 := Tryd.isAgg4
  z4 := Tryd.sizeOf4
  v4 := Tryd.zeroValue4
  t5 := Tryd.underlying5
  a5 := Tryd.isAgg5
  z5 := Tryd.sizeOf5
  v5 := Tryd.zeroValue5
  t9 := Tryd.underlying9
  a9 := Tryd.isAgg9
  z9 := Tryd.sizeOf9
  v9 := Tryd.zeroValue9
  t20 := Tryd.underlying20
  a20 := Tryd.isAgg20
  z20 := Tryd.sizeOf20
  v20 := Tryd.zeroValue20
  t37 := Tryd.underlying22
  a37 := Tryd.isAgg22
  z37 := Tryd.sizeOf22
  v37 := Tryd.zeroValue22
  t46 := Tryd.underlying110
  a46 := Tryd.isAgg110
  z46 := Tryd.sizeOf110
  v46 := Tryd.zeroValue110
  t51 := Tryd.underlying193
  a51 := Tryd.isAgg193
  z51 := Tryd.sizeOf193
  v51 := Tryd.zeroValue193
  t53 := Tryd.underlying113
  a53 := Tryd.isAgg113
  z53 := Tryd.sizeOf113
  v53 := Tryd.zeroValue113
  t171 := Tryd.underlying177
  a171 := Tryd.isAgg177
  z171 := Tryd.sizeOf177
  v171 := Tryd.zeroValue177
  t173 := Tryd.underlying180
  a173 := Tryd.isAgg180
  z173 := Tryd.sizeOf180
  v173 := Tryd.zeroValue180
  t212 := Tryd.underlying192
  a212 := Tryd.isAgg192
  z212 := Tryd.sizeOf192
  v212 := Tryd.zeroValue192
  t213 := Tryd.underlying194
  a213 := Tryd.isAgg194
  z213 := Tryd.sizeOf194
  t232 := Tryd.underlying215
  a232 := Tryd.isAgg215
  z232 := Tryd.sizeOf215
  v232 := Tryd.zeroValue215
  t233 := Tryd.underlying216
  a233 := Tryd.isAgg216
  z233 := Tryd.sizeOf216
  v233 := Tryd.zeroValue216
  g17 := by kernel_rfl
  g18 := by kernel_rfl
  g19 := by kernel_rfl
  i0 := by kernel_rfl
  i2 := by kernel_rfl
  i3 := by kernel_rfl
  i4 := by kernel_rfl
  i5 := by kernel_rfl
  i9 := by kernel_rfl
  i20 := by kernel_rfl
  i37 := by kernel_rfl
  i46 := by kernel_rfl
  i51 := by kernel_rfl
  i53 := by kernel_rfl
  i171 := by kernel_rfl
  i173 := by kernel_rfl
  i212 := by kernel_rfl
  i232 := by kernel_rfl
  i233 := by kernel_rfl
  m17 := by kernel_rfl
  m18 := by kernel_rfl
  m19 := by kernel_rfl }
open Go.RowKit Go.Sort Go.Lib in
/-- strconv.Itoa: "Itoa is equivalent to FormatInt(int64(i), 10).": i's DECIMAL NUMERAL ('Lib.itoa': a '-' where i is negative, then the digits), FOR EVERY int. The world behind the call: the world before it, new blocks behind the heap (the library's 'var a [24]byte'), draws. (LAID: no walk: one application.) -/
theorem Tryd.strconv_Itoa (n : Int) (h0 : -9223372036854775808 ≤ n) (h1 : n ≤ 9223372036854775807) (w : World) (htab : Lib.TabIs Tryd.prog w "internal/strconv.uint64pow10" .u64 Lib.pow10Tab) :
    Calls Tryd.prog 79 #[.int .i64 n] w fun e w' => e = .returned (.string ⟨(Lib.itoa n).toArray⟩) ∧ ∃ k os, w' = grow (w.drewN k) os := Any.strconv_Itoa Tryd.laysM171 n h0 h1 w htab
def Tryd.laysC172_ren : Go.Shelf.Ren := ⟨fun | 172 => 102 | 244 => 109 | 245 => 110 | 247 => 119 | 279 => 120 | 280 => 121 | 281 => 122 | 282 => 123 | 287 => 134 | 316 => 135 | 171 => 79 | 205 => 136 | 321 => 141 | 322 => 142 | 243 => 100 | 246 => 105 | 283 => 112 | 284 => 113 | 285 => 114 | 286 => 115 | 129 => 126 | 317 => 125 | 318 => 127 | 319 => 128 | 320 => 129 | 337 => 137 | 338 => 138 | n => n, fun | 9 => 9 | 3 => 3 | 75 => 167 | 76 => 168 | 4 => 4 | 5 => 5 | 167 => 184 | 37 => 22 | 0 => 0 | 85 => 185 | 2 => 2 | 168 => 187 | 53 => 113 | 175 => 196 | 46 => 110 | 210 => 200 | 127 => 211 | 145 => 214 | 143 => 212 | 21 => 21 | 171 => 177 | 173 => 180 | 212 => 192 | 51 => 193 | 20 => 20 | 213 => 194 | 232 => 215 | 233 => 216 | 80 => 217 | n => n, fun | 15 => 2 | 16 => 3 | 17 => 0 | 18 => 6 | 19 => 7 | n => n⟩
theorem Tryd.laysC172 : Go.Proofs.LaysC.n172 Tryd.prog Tryd.laysC172_ren := {
  mixed := by kernel_rfl
  f129 := Tryd.func126.trans (congrArg some (by kernel_rfl))
  f171 := Tryd.func79.trans (congrArg some (by kernel_rfl))
  f172 := Tryd.func102.trans (congrArg some (by kernel_rfl))
  f205 := Tryd.func136.trans (congrArg some (by kernel_rfl))
  f243 := Tryd.func100.trans (congrArg some (by kernel_rfl))
  f244 := Tryd.func109.trans (congrArg some (by kernel_rfl))
  f245 := Tryd.func110.trans (congrArg some (by kernel_rfl))
  f246 := Tryd.func105.trans (congrArg some (by kernel_rfl))
  f247 := Tryd.func119.trans (congrArg some (by kernel_rfl))
  f279 := Tryd.func120.trans (congrArg some (by kernel_rfl))
  f280 := Tryd.func121.trans (congrArg some (by kernel_rfl))
  f281 := Tryd.func122.trans (congrArg some (by kernel_rfl))
  f282 := Tryd.func123.trans (congrArg some (by kernel_rfl))
  f283 := Tryd.func112.trans (congrArg some (by kernel_rfl))
  f284 := Tryd.func113.trans (congrArg some (by kernel_rfl))
  f285 := Tryd.func114.trans (congrArg some (by kernel_rfl))
  f286 := Tryd.func115.trans (congrArg some (by kernel_rfl))
  f287 := Tryd.func134.trans (congrArg some (by kernel_rfl))
  f316 := Tryd.func135.trans (congrArg some (by kernel_rfl))
  f317 := Tryd.func125.trans (congrArg some (by kernel_rfl))
  f318 := Tryd.func127.trans (congrArg some (by kernel_rfl))
  f319 := Tryd.func128.trans (congrArg some (by kernel_rfl))
  f320 := Tryd.func129.trans (congrArg some (by kernel_rfl))
  f321 := Tryd.func141.trans (congrArg some (by kernel_rfl))
  f322 := Tryd.func142.trans (congrArg some (by kernel_rfl))
  f337 := Tryd.func137.trans (congrArg some (by kernel_rfl))
  f338 := Tryd.func138.trans (congrArg some (by kernel_rfl))
  t0 := Tryd.underlying0
  a0 := Tryd.isAgg0
  z0 := Tryd.sizeOf0
  v0 := Tryd.zeroValue0
  t2 := Tryd.underlying2
  a2 := Tryd.isAgg2
  z2 := Tryd.sizeOf2
  v2 := Tryd.zeroValue2
  t3 := Tryd.underlying3
  a3 := Tryd.isAgg3
  z3 := Tryd.sizeOf3
  v3 := Tryd.zeroValue3
  t4 := Tryd.underlying4
  a4 := Tryd.isAgg4
  z4 := Tryd.sizeOf4
  v4 := Tryd.zeroValue4
  t5 := Tryd.underlying5
  a5 := Tryd.isAgg5
  z5 := Tryd.sizeOf5
  v5 := Tryd.zeroValue5
  t9 := Tryd.underlying9
  a9 := Tryd.isAgg9
  z9 := Tryd.sizeOf9
  v9 := Tryd.zeroValue9
  t20 := Tryd.underlying20
  a20 := Tryd.isAgg20
  z20 := Tryd.sizeOf20
  v20 := Tryd.zeroValue20
  t21 := Tryd.underlying21
  a21 := Tryd.isAgg21
  z21 := Tryd.sizeOf21
  v21 := Tryd.zeroValue21
  t37 := Tryd.underlying22
  a37 := Tryd.isAgg22
  z37 := Tryd.sizeOf22
  v37 := Tryd.zeroValue22
  t46 := Tryd.underlying110
  a46 := Tryd.isAgg110
  z46 := Tryd.sizeOf110
  v46 := Tryd.zeroValue110
  t51 := Tryd.underlying193
  a51 := Tryd.isAgg193
  z51 := Tryd.sizeOf193
  v51 := Tryd.zeroValue193
  t53 := Tryd.underlying113
  a53 := Tryd.isAgg113
  z53 := Tryd.sizeOf113
  v53 := Tryd.zeroValue113
  t75 := Tryd.underlying167
  a75 := Tryd.isAgg167
  z75 := Tryd.sizeOf167
  v75 := Tryd.zeroValue167
  t76 := Tryd.underlying168
  a76 := Tryd.isAgg168
  z76 := Tryd.sizeOf168
  v76 := Tryd.zeroValue168
  t85 := Tryd.underlying185
  a85 := Tryd.isAgg185
  z85 := Tryd.sizeOf185
  v85 := Tryd.zeroValue185
  t127 := Tryd.underlying211
  a127 := Tryd.isAgg211
  z127 := Tryd.sizeOf211
  v127 := Tryd.zeroValue211
  t143 := Tryd.underlying212
  a143 := Tryd.isAgg212
  z143 := Tryd.sizeOf212
  v143 := Tryd.zeroValue212
  t145 := Tryd.underlying214
  a145 := Tryd.isAgg214
  z145 := Tryd.sizeOf214
  v145 := Tryd.zeroValue214
  t167 := Tryd.underlying184
  a167 := Tryd.isAgg184
  z167 := Tryd.sizeOf184
  v167 := Tryd.zeroValue184
  t168 := Tryd.underlying187
  a168 := Tryd.isAgg187
  z168 := Tryd.sizeOf187
  v168 := Tryd.zeroValue187
  t171 := Tryd.underlying177
  a171 := Tryd.isAgg177
  z171 := Tryd.sizeOf177
  v171 := Tryd.zeroValue177
  t173 := Tryd.underlying180
  a173 := Tryd.isAgg180
  z173 := Tryd.sizeOf180
  v173 := Tryd.zeroValue180
  t175 := Tryd.underlying196
  a175 := Tryd.isAgg196
  z175 := Tryd.sizeOf196
  v175 := Tryd.zeroValue196
  t210 := Tryd.underlying200
  a210 := Tryd.isAgg200
  z210 := Tryd.sizeOf200
  v210 := Tryd.zeroValue200
  t212 := Tryd.underlying192
  a212 := Tryd.isAgg192
  z212 := Tryd.sizeOf192
  v212 := Tryd.zeroValue192
  t213 := Tryd.underlying194
  a213 := Tryd.isAgg194
  z213 := Tryd.sizeOf194
  t232 := Tryd.underlying215
  a232 := Tryd.isAgg215
  z232 := Tryd.sizeOf215
  v232 := Tryd.zeroValue215
  t233 := Tryd.underlying216
  a233 := Tryd.isAgg216
  z233 := Tryd.sizeOf216
  v233 := Tryd.zeroValue216
  g15 := by kernel_rfl
  g16 := by kernel_rfl
  g17 := by kernel_rfl
  g18 := by kernel_rfl
  g19 := by kernel_rfl
  t80 := Tryd.underlying217
  a80 := Tryd.isAgg217
  z80 := Tryd.sizeOf217
  v80 := Tryd.zeroValue217
  i0 := by kernel_rfl
  i2 := by kernel_rfl
  i3 := by kernel_rfl
  i4 := by kernel_rfl
  i5 := by kernel_rfl
  i9 := by kernel_rfl
  i20 := by kernel_rfl
  i21 := by kernel_rfl
  i37 := by kernel_rfl
  i46 := by kernel_rfl
  i51 := by kernel_rfl
  i53 := by kernel_rfl
  i75 := by kernel_rfl
  i76 := by kernel_rfl
  i80 := by kernel_rfl
  i85 := by kernel_rfl
  i127 := by kernel_rfl
  i143 := by kernel_rfl
  i145 := by kernel_rfl
  i167 := by kernel_rfl
  i168 := by kernel_rfl
  i171 := by kernel_rfl
  i173 := by kernel_rfl
  i175 := by kernel_rfl
  i210 := by kernel_rfl
  i212 := by kernel_rfl
  i232 := by kernel_rfl
  i233 := by kernel_rfl
  m15 := by kernel_rfl
  m16 := by kernel_rfl
  m17 := by kernel_rfl
  m18 := by kernel_rfl
  m19 := by kernel_rfl
  c0 := by kernel_rfl
  c2 := by kernel_rfl
  c3 := by kernel_rfl
  c4 := by kernel_rfl
  c5 := by kernel_rfl
  c9 := by kernel_rfl
  c20 := by kernel_rfl
  c21 := by kernel_rfl
  c37 := by kernel_rfl
  c46 := by kernel_rfl
  c51 := by kernel_rfl
  c53 := by kernel_rfl
  c75 := by kernel_rfl
  c76 := by kernel_rfl
  c80 := by kernel_rfl
  c85 := by kernel_rfl
  c127 := by kernel_rfl
  c143 := by kernel_rfl
  c145 := by kernel_rfl
  c167 := by kernel_rfl
  c168 := by kernel_rfl
  c171 := by kernel_rfl
  c173 := by kernel_rfl
  c175 := by kernel_rfl
  c210 := by kernel_rfl
  c212 := by kernel_rfl
  c213 := by kernel_rfl
  c232 := by kernel_rfl
  c233 := by kernel_rfl }
open Go.RowKit in
/-- strconv.Atoi, AT EVERY STRING THAT SPELLS AN int ('Lib.atoiAll .. = .ok v'; of whatever length: leading zeros count): v, AND NO ERROR. The world: as it was, or with the one new row that '[]byte(..)' lays. (LAID: no walk: one application.) -/
theorem Tryd.strconv_Atoi_ok (s : ByteArray) (hmax : s.size ≤ 9223372036854775806) (v : Int) (h : Lib.atoiAll s.data.toList = .ok v) (w : World) :
    Calls Tryd.prog 102 #[.string s] w fun e w' => e = .returned (.tuple #[.int .i64 v, .nilIface]) ∧ (w' = w ∨ ∃ t, w' = Lib.bytesWorld w 5 t) := Any.strconv_Atoi_ok Tryd.laysC172 s hmax v h w
open Go.RowKit in
theorem Tryd.strconv_Atoi_syntax_var (s : ByteArray) (hlim : s.size ≤ 281474976710656) (h : Lib.atoiAll s.data.toList = Go.Lib.NumEnd.syntax) (tp : TypeId) (p : Value) (w : World) (hvar : w.var? Tryd.prog "strconv.ErrSyntax" = some #[.iface tp p]) :
    Calls Tryd.prog 102 #[.string s] w fun e w' => ∃ N, e = .returned (.tuple #[.int .i64 0, .iface 187 (.pointer (some ⟨N, 0, none⟩))]) ∧ w.heap.size ≤ N ∧ w'.heap[N]? = some (.cells #[.string ⟨#[65, 116, 111, 105]⟩, .string s, .iface tp p] 200 (0, 0)) ∧ Below w.heap.size w w' := Any.strconv_Atoi_syntax_var Tryd.laysC172 s hlim h tp p w hvar
open Go.RowKit in
theorem Tryd.strconv_Atoi_range_var (s : ByteArray) (hlim : s.size ≤ 281474976710656) (h : Lib.atoiAll s.data.toList = .range) (tp : TypeId) (p : Value) (w : World) (hvar : w.var? Tryd.prog "strconv.ErrRange" = some #[.iface tp p]) :
    Calls Tryd.prog 102 #[.string s] w fun e w' => ∃ N, e = .returned (.tuple #[.int .i64 (Lib.atoiSat s.data.toList), .iface 187 (.pointer (some ⟨N, 0, none⟩))]) ∧ w.heap.size ≤ N ∧ w'.heap[N]? = some (.cells #[.string ⟨#[65, 116, 111, 105]⟩, .string s, .iface tp p] 200 (0, 0)) ∧ Below w.heap.size w w' := Any.strconv_Atoi_range_var Tryd.laysC172 s hlim h tp p w hvar
def Tryd.laysM146_ren : Go.Shelf.Ren := ⟨fun | 146 => 84 | 221 => 101 | 268 => 106 | 138 => 107 | 143 => 108 | 195 => 116 | 197 => 111 | 218 => 117 | 219 => 118 | 260 => 124 | 217 => 130 | 225 => 131 | 224 => 132 | 267 => 133 | 266 => 139 | 314 => 140 | n => n, fun | 9 => 9 | 31 => 76 | 3 => 3 | 4 => 4 | 0 => 0 | 105 => 175 | 21 => 21 | 5 => 5 | 46 => 110 | 119 => 202 | 139 => 205 | 138 => 204 | 146 => 207 | 51 => 193 | n => n, fun | 1 => 1 | 3 => 4 | 4 => 5 | n => n⟩
theorem Tryd.laysM146 : Go.Proofs.LaysM.n146 Tryd.prog Tryd.laysM146_ren := {
  mixed := by kernel_rfl
  f138 := Tryd.func107.trans (congrArg some (by kernel_rfl))
  f143 := Tryd.func108.trans (congrArg some (by kernel_rfl))
  f146 := Tryd.func84.trans (congrArg some (by kernel_rfl))
  f195 := Tryd.func116.trans (congrArg some (by kernel_rfl))
  f197 := Tryd.func111.trans (congrArg some (by kernel_rfl))
  f217 := Tryd.func130.trans (congrArg some (by kernel_rfl))
  f218 := Tryd.func117.trans (congrArg some (by kernel_rfl))
  f219 := Tryd.func118.trans (congrArg some (by kernel_rfl))
  f221 := Tryd.func101.trans (congrArg some (by kernel_rfl))
  f224 := Tryd.func132.trans (congrArg some (by kernel_rfl))
  f225 := Tryd.func131.trans (congrArg some (by kernel_rfl))
  f260 := Tryd.func124.trans (congrArg some (by kernel_rfl))
  f266 := Tryd.func139.trans (congrArg some (by kernel_rfl))
  f267 := Tryd.func133.trans (congrArg some (by kernel_rfl))
  f268 := Tryd.func106.trans (congrArg some (by kernel_rfl))
  f314 := Tryd.func140.trans (congrArg some (by kernel_rfl))
  t0 := Tryd.underlying0
  a0 := Tryd.isAgg0
  z0 := Tryd.sizeOf0
  v0 := Tryd.zeroValue0
  t3 := Tryd.underlying3
  a3 := Tryd.isAgg3
  z3 := Tryd.sizeOf3
  v3 := Tryd.zeroValue3
  t4 := Tryd.underlying4
  a4 := Tryd.isAgg4
  z4 := Tryd.sizeOf4
  v4 := Tryd.zeroValue4
  t5 := Tryd.underlying5
  a5 := Tryd.isAgg5
  z5 := Tryd.sizeOf5
  v5 := Tryd.zeroValue5
  t9 := Tryd.underlying9
  a9 := Tryd.isAgg9
  z9 := Tryd.sizeOf9
  v9 := Tryd.zeroValue9
  t21 := Tryd.underlying21
  a21 := Tryd.isAgg21
  z21 := Tryd.sizeOf21
  v21 := Tryd.zeroValue21
  t31 := Tryd.underlying76
  a31 := Tryd.isAgg76
  z31 := Tryd.sizeOf76
  v31 := Tryd.zeroValue76
  t46 := Tryd.underlying110
  a46 := Tryd.isAgg110
  z46 := Tryd.sizeOf110
  v46 := Tryd.zeroValue110
  t51 := Tryd.underlying193
  a51 := Tryd.isAgg193
  z51 := Tryd.sizeOf193
  v51 := Tryd.zeroValue193
  t105 := Tryd.underlying175
  a105 := Tryd.isAgg175
  z105 := Tryd.sizeOf175
  v105 := Tryd.zeroValue175
  t119 := Tryd.underlying202
  a119 := Tryd.isAgg202
  z119 := Tryd.sizeOf202
  t138 := Tryd.underlying204
  a138 := Tryd.isAgg204
  z138 := Tryd.sizeOf204
  v138 := Tryd.zeroValue204
  t139 := Tryd.underlying205
  a139 := Tryd.isAgg205
  z139 := Tryd.sizeOf205
  v139 := Tryd.zeroValue205
  t146 := Tryd.underlying207
  a146 := Tryd.isAgg207
  z146 := Tryd.sizeOf207
  v146 := Tryd.zeroValue207
  g1 := by kernel_rfl
  g3 := by kernel_rfl
  g4 := by kernel_rfl
  i0 := by kernel_rfl
  i3 := by kernel_rfl
  i4 := by kernel_rfl
  i5 := by kernel_rfl
  i9 := by kernel_rfl
  i21 := by kernel_rfl
  i31 := by kernel_rfl
  i46 := by kernel_rfl
  i51 := by kernel_rfl
  i105 := by kernel_rfl
  i138 := by kernel_rfl
  i139 := by kernel_rfl
  i146 := by kernel_rfl
  m1 := by kernel_rfl
  s1_3 := fun w h => Go.Proofs.cell_of_shapedOpen_int (zero := #[.int .i64 0]) (t := 3) h (of_decide_eq_true (by kernel_rfl)) (by kernel_rfl) rfl (by kernel_rfl) (by kernel_rfl) Tryd.underlying3
  m3 := by kernel_rfl
  m4 := by kernel_rfl }
open Go.RowKit Go.Lib in
/-- strings.Split, sep not empty. (LAID: no walk: one application.) -/
theorem Tryd.strings_Split_shaped (s sep : ByteArray) (w : World) (h : w.ShapedOpen Tryd.prog) (hs : s.size < 4294967281) (h1 : 1 ≤ sep.size) :
    Calls Tryd.prog 84 #[.string s, .string sep] w fun e w' =>
      e = .returned (.slice (some ⟨w.heap.size, 0, none⟩) (Lib.countB s sep + 1) (Lib.countB s sep + 1)) ∧ w' = w.alloc (.cells ((Lib.splitB sep 0 (Lib.countB s sep) s).map Value.string).toArray 9) := Any.strings_Split_shaped Tryd.laysM146 s sep w h hs h1
end Go.Proofs
/-
  From a contract of the library to an entry.
-/
namespace Go.Lf
open Go Go.Eng Go.RowKit

theorem argsR_gs {φ : Phi} {ps : List Par} {z : prodT (ps.map Par.ty)} {vals : List Value} {gs : List (Nat × Nat)} {hs : List Chunk} (h : ArgsR φ ps z vals gs hs) (ho : outs ps = []) : gs = [] := by
  induction h with
  | nil => rfl
  | val _ _ _ ih => exact ih ho
  | cfn _ ih => exact ih ho
  | obj _ _ _ => simp [outs] at ho
theorem hb_below {C : Cx} {w w' : World} {I : World → Prop} (hb : Hb C w [] I) (h : Below w.heap.size w w') : Hb C w' [] I :=
  hb.grow ⟨h.os, h.tape, h.output, h.size, fun k hk _ _ => h.block k hk, fun k m hk _ _ => Same.of_block (h.block k hk), fun c hc => (by cases hc)⟩
section
variable {P : Program} {G : World → Prop} {f : Nat} {ps : List Par} {rs : List Ty} {F : prodT (ps.map Par.ty) → Option (prodT (rs ++ outs ps))}
theorem drop_obs (ho : outs ps = []) (r : prodT (rs ++ outs ps)) : (unProd (rs ++ outs ps) r).drop rs.length = [] := by
  refine List.drop_eq_nil_of_le ?_
  have := congrArg List.length (unProd_tys (rs ++ outs ps) r)
  simp [ho] at this
  omega
/-- results that lean on no memory -/
theorem ent_calls (go : GoFn P f) (top : ∀ t, Par.val t ∈ ps → t.top = true) (ho : outs ps = [])
    (h : ∀ z r w φ vals gs hs, F z = some r → G w → ArgsR φ ps z vals gs hs → Calls P f vals.toArray w fun e w' => (∃ vs, e = .returned (resVal vs) ∧ TupR φ ((unProd (rs ++ outs ps) r).take rs.length) vs []) ∧ Below w.heap.size w w') : EntryOk P G f ⟨ps, rs, F⟩ := by
  refine ⟨go, top, fun z r hz C φ vals gs hs ha hb => ?_⟩
  have hb0 : Hb C C.w0 [] (Inv G φ) := (Sub.nil hs).hb hb
  refine (h z r C.w0 φ vals gs hs hz hb.get.1 ha).mono ?_
  rintro e w' ⟨⟨vs, rfl, ht⟩, hbl⟩
  have hg := argsR_gs ha ho
  subst hg
  refine ⟨_, φ, [], [], rfl, φ.le_refl, hb_below hb0 hbl, ⟨vs, ht, rfl⟩, ?_⟩
  rw [drop_obs ho]
  exact .nil
/-- one result: a new slice -/
theorem ent_row {t : Ty} {el : Nat} {F : prodT (ps.map Par.ty) → Option (prodT ([.sl t] ++ outs ps))} (go : GoFn P f) (top : ∀ t, Par.val t ∈ ps → t.top = true) (ho : outs ps = [])
    (h : ∀ z r w φ vals gs hs, F z = some r → G w → ArgsR φ ps z vals gs hs → Calls P f vals.toArray w fun e w' => (∃ (l : List t.den) (A : Addr) (css : List (List Value)), (unProd ([.sl t] ++ outs ps) r).take 1 = [⟨.sl t, l⟩] ∧ e = .returned (.slice (some A) l.length l.length) ∧ All2 (fun x cs => Rp φ t x cs []) l css ∧
      w'.ownsRow w.heap.size el t.size (.slice (some A) l.length l.length) l.length css.flatten) ∧ Below w.heap.size w w') : EntryOk P G f ⟨ps, [.sl t], F⟩ := by
  refine ⟨go, top, fun z r hz C φ vals gs hs ha hb => ?_⟩
  have hb0 : Hb C C.w0 [] (Inv G φ) := (Sub.nil hs).hb hb
  refine (h z r C.w0 φ vals gs hs hz hb.get.1 ha).mono ?_
  rintro e w' ⟨⟨l, A, css, hl, rfl, hall, hrow⟩, hbl⟩
  have hg := argsR_gs ha ho
  subst hg
  have hlt := World.ownsRow.lt hrow
  have hb1 : Hb C w' [.row false (.slice (some A) l.length l.length) el t.size l.length css.flatten] (Inv G φ) := by
    refine hb0.step ⟨hbl.os, hbl.tape, hbl.output, hbl.size, fun k hk _ _ => hbl.block k hk, fun k m hk _ _ => Same.of_block (hbl.block k hk), fun c hc => (by cases hc)⟩ (fun c hc => ?_) (fun c hc g hg => ?_) ?_ fun c hc => (by cases hc)
    · have : c = _ := List.mem_singleton.1 hc
      subst this
      refine ⟨hrow.1, ?_⟩
      rcases hrow.2 with h2 | ⟨g, cap, cur, hv, hg, r⟩
      · exact .inl h2
      · exact .inr ⟨g, cap, cur, hv, Nat.zero_le _, r⟩
    · have : c = _ := List.mem_singleton.1 hc
      subst this
      exact .inr (hlt g hg).1
    · exact List.pairwise_singleton _ _
  obtain ⟨φ', f1, f2, f3⟩ := freeze_row hb1
  refine ⟨_, φ', [], [], rfl, f1, f3, ⟨[.slice (some A) l.length l.length], ?_, rfl⟩, ?_⟩
  · show TupR φ' ((unProd ([.sl t] ++ outs ps) r).take 1) _ _
    rw [hl]
    exact TupR.cons (t := .sl t) (x := l) (cs := [.slice (some A) l.length l.length]) (h := []) (hs := []) rfl ⟨some A, l.length, css, rfl, Nat.le_refl _, hall.imp fun _ _ h => h.mono f1, f2, rfl⟩ .nil
  · have : (unProd ([.sl t] ++ outs ps) r).drop ([Ty.sl t]).length = [] := drop_obs (rs := [.sl t]) ho r
    show ObsR φ' [] ((unProd ([.sl t] ++ outs ps) r).drop ([Ty.sl t]).length) []
    rw [this]
    exact .nil
end
end Go.Lf
/- The library's functions, as entries. -/

namespace Go.Fn
open Go Go.Lf Go.Eng Go.RowKit Go.Proofs Go.Shelf

/-- what the world holds -/
def GG (w : World) : Prop := Lib.TabIs Tryd.prog w "internal/strconv.uint64pow10" .u64 Lib.pow10Tab ∧ w.ShapedOpen Tryd.prog ∧ (∃ t p, w.var? Tryd.prog "strconv.ErrSyntax" = some #[.iface t p]) ∧ (∃ t p, w.var? Tryd.prog "strconv.ErrRange" = some #[.iface t p])

def strconv_Itoa (n : Int) : Option (List UInt8) := if -9223372036854775808 ≤ n ∧ n ≤ 9223372036854775807 then some (Lib.itoa n) else none
def strconv_Atoi (s : List UInt8) : Option (Int × Option Unit) := if s.length ≤ 140737488355328 then some (match Lib.atoiAll s with | .ok v => (v, none) | .range => (Lib.atoiSat s, some ()) | _ => (0, some ())) else none
/-- at single bytes -/
def splitS (s t : List UInt8) : List (List UInt8) := (Lib.splitB ⟨t.toArray⟩ 0 (Lib.countB ⟨s.toArray⟩ ⟨t.toArray⟩) ⟨s.toArray⟩).map (·.data.toList)
def strings_Split (s t : List UInt8) : Option (List (List UInt8)) := if s.length < 4294967281 ∧ t.length = 1 then some (splitS s t) else none
def strconv_ItoaEnt : Nat × Entry := (79, ⟨[.val (.int .i64)], [.str], fun z => strconv_Itoa z⟩)
def strconv_AtoiEnt : Nat × Entry := (102, ⟨[.val .str], [.int .i64, .eb 187 .unit], fun z => strconv_Atoi z⟩)
def strings_SplitEnt : Nat × Entry := (84, ⟨[.val .str, .val .str], [.sl .str], fun z => strings_Split z.1 z.2⟩)

theorem below_growN {w : World} (k : Nat) (os : Array Obj) : Below w.heap.size w (Go.Sort.grow (w.drewN k) os) :=
  ⟨rfl, rfl, rfl, by show w.heap.size ≤ (w.heap ++ os).size; rw [Array.size_append]; omega, fun j hj => Go.Sort.heap_grow_old (w.drewN k) os hj⟩
theorem below_drawn {w : World} (n : Nat) : Below w.heap.size w (w.drewN n) := ⟨rfl, rfl, rfl, Nat.le_refl _, fun _ _ => rfl⟩

theorem strconv_Itoa_ok : EntryOk Tryd.prog GG 79 strconv_ItoaEnt.2 := by
  refine ent_calls (ps := [.val (.int .i64)]) (rs := [.str]) (GoFn.mk Tryd.f79 (by kernel_rfl) (by kernel_rfl) (by kernel_rfl)) (by simp [Ty.top]) rfl fun z r w φ vals gs hs hz hG ha => ?_
  have hz : strconv_Itoa z = some r := hz
  unfold strconv_Itoa at hz
  split at hz
  case isFalse => cases hz
  case isTrue h01 =>
  injection hz with hz
  subst hz
  cases ha with
  | val h1 h2 h3 =>
  cases h3
  obtain ⟨rfl, _⟩ := h2
  refine (Tryd.strconv_Itoa z h01.1 h01.2 w hG.1).mono ?_
  rintro e w' ⟨rfl, k, os, rfl⟩
  exact ⟨⟨[Eng.str (Lib.itoa z)], rfl, TupR.cons (t := .str) (x := Lib.itoa z) (cs := [_]) (h := []) (hs := []) rfl ⟨rfl, rfl⟩ .nil⟩, below_growN k os⟩
theorem strconv_Atoi_ok : EntryOk Tryd.prog GG 102 strconv_AtoiEnt.2 := by
  refine ent_calls (ps := [.val .str]) (rs := [.int .i64, .eb 187 .unit]) (GoFn.mk Tryd.f102 (by kernel_rfl) (by kernel_rfl) (by kernel_rfl)) (by simp [Ty.top]) rfl fun z r w φ vals gs hs hz hG ha => ?_
  have hz : strconv_Atoi z = some r := hz
  unfold strconv_Atoi at hz
  split at hz
  case isFalse => cases hz
  case isTrue h01 =>
  injection hz with hz
  cases ha with
  | val h1 h2 h3 =>
  cases h3
  obtain ⟨rfl, _⟩ := h2
  have hsz : (⟨List.toArray z⟩ : ByteArray).size ≤ 140737488355328 := Nat.le_trans (Nat.le_of_eq (Eng.str_size z)) h01
  obtain ⟨t1, p1, hv1⟩ := hG.2.2.1
  obtain ⟨t2, p2, hv2⟩ := hG.2.2.2
  have err : ∀ (n : Int) (N : Nat), TupR φ [⟨.int .i64, n⟩, ⟨.eb 187 .unit, some ()⟩] [.int .i64 n, .iface 187 (.pointer (some ⟨N, 0, none⟩))] [] := fun n N =>
    TupR.cons (t := .int .i64) (cs := [_]) (h := []) (hs := []) rfl ⟨rfl, rfl⟩ (TupR.cons (t := .eb 187 .unit) (x := some ()) (cs := [.iface 187 (.pointer (some ⟨N, 0, none⟩))]) (h := []) (hs := []) rfl ⟨rfl, ⟨N, 0, none⟩, [], rfl, ⟨rfl, rfl⟩, fun j v hv => by simp at hv⟩ .nil)
  cases h : Lib.atoiAll (show List UInt8 from z)
  · rename_i v
    have hz : (v, none) = r := by rw [show Lib.atoiAll z = _ from h] at hz; exact hz
    subst hz
    refine (Tryd.strconv_Atoi_ok ⟨List.toArray z⟩ (Nat.le_trans hsz (by decide)) v h w).mono ?_
    rintro e w' ⟨rfl, hw⟩
    refine ⟨⟨[.int .i64 v, .nilIface], rfl, TupR.cons (t := .int .i64) (cs := [_]) (h := []) (hs := []) rfl ⟨rfl, rfl⟩ (TupR.cons (t := .eb 187 .unit) (x := none) (cs := [.nilIface]) (h := []) (hs := []) rfl ⟨rfl, rfl⟩ .nil)⟩, ?_⟩
    rcases hw with rfl | ⟨t, rfl⟩
    · exact Below.refl _ _
    · exact Go.Joins.below_bytesWorld _ _ _ _ (Nat.le_refl _)
  · have hz : (0, some ()) = r := by rw [show Lib.atoiAll z = _ from h] at hz; exact hz
    subst hz
    refine (Tryd.strconv_Atoi_syntax_var ⟨List.toArray z⟩ (Nat.le_trans hsz (by decide)) h t1 p1 w hv1).mono ?_
    rintro e w' ⟨N, rfl, _, _, hb2⟩
    exact ⟨⟨_, rfl, err 0 N⟩, hb2⟩
  · have hz : (Lib.atoiSat z, some ()) = r := by rw [show Lib.atoiAll z = _ from h] at hz; exact hz
    subst hz
    refine (Tryd.strconv_Atoi_range_var ⟨List.toArray z⟩ (Nat.le_trans hsz (by decide)) h t2 p2 w hv2).mono ?_
    rintro e w' ⟨N, rfl, _, _, hb2⟩
    exact ⟨⟨_, rfl, err _ N⟩, hb2⟩
def namesL : List (List UInt8) := [[], [116, 101, 120, 116], [115, 116, 121, 108, 101], [108, 105, 110, 107], [110, 111, 116, 101], [99, 108, 111, 115, 101], [116, 97, 98], [98, 114, 101, 97, 107], [112, 97, 114, 97], [100, 111, 110, 101], [108, 105, 115, 116], [105, 116, 101, 109], [116, 97, 98, 108, 101], [114, 111, 119], [101, 110, 100], [104, 97, 108, 116]]
def code_name (k : Int) : Option (List UInt8) := idx namesL k
def code_nameEnt : Nat × Entry := (80, ⟨[.val (.int .i64)], [.str], fun z => code_name z⟩)
set_option maxHeartbeats 2000000 in
set_option maxRecDepth 100000 in
theorem name_walk (k : Nat) (h : k < 16) (w : World) : Calls Tryd.prog 80 #[.int .i64 k] w fun e w' => e = .returned (.string ⟨(namesL.getD k []).toArray⟩) ∧ Below w.heap.size w w' := by
  have t164 := Tryd.underlying164; have a164 := Tryd.isAgg164; have z164 := Tryd.sizeOf164; have v164 := Tryd.zeroValue164; have u164 := run_underlying Tryd.underlying164
  have t9 := Tryd.underlying9; have a9 := Tryd.isAgg9; have z9 := Tryd.sizeOf9; have v9 := Tryd.zeroValue9; have u9 := run_underlying Tryd.underlying9
  have hk : k = 0 ∨ k = 1 ∨ k = 2 ∨ k = 3 ∨ k = 4 ∨ k = 5 ∨ k = 6 ∨ k = 7 ∨ k = 8 ∨ k = 9 ∨ k = 10 ∨ k = 11 ∨ k = 12 ∨ k = 13 ∨ k = 14 ∨ k = 15 := by omega
  go_enter Tryd.func80, Tryd.ntmps80
  rcases hk with rfl | rfl | rfl | rfl | rfl | rfl | rfl | rfl | rfl | rfl | rfl | rfl | rfl | rfl | rfl | rfl
  all_goals go_wp2
  all_goals go_ret
  all_goals exact ⟨rfl, (Below.refl _ _).alloc (Nat.le_refl _) _⟩
theorem code_name_ok : EntryOk Tryd.prog GG 80 code_nameEnt.2 := by
  refine ent_calls (ps := [.val (.int .i64)]) (rs := [.str]) (GoFn.mk Tryd.f80 (by kernel_rfl) (by kernel_rfl) (by kernel_rfl)) (by simp [Ty.top]) rfl fun z r w φ vals gs hs hz hG ha => ?_
  have hz : code_name z = some r := hz
  unfold code_name idx at hz
  split at hz
  case isFalse => cases hz
  case isTrue h0 =>
  cases ha with
  | val h1 h2 h3 =>
  cases h3
  obtain ⟨rfl, _⟩ := h2
  obtain ⟨k, rfl⟩ : ∃ k : Nat, (z : Int) = (k : Int) := ⟨Int.toNat z, (Int.toNat_of_nonneg h0).symm⟩
  rw [Int.toNat_natCast] at hz
  have hk : k < 16 := (List.getElem?_eq_some_iff.1 hz).1
  refine (name_walk k hk w).mono ?_
  rintro e w' ⟨rfl, hb⟩
  refine ⟨⟨[_], rfl, ?_⟩, hb⟩
  have : namesL.getD k [] = r := by rw [List.getD_eq_getElem?_getD, hz]; rfl
  rw [this]
  exact TupR.cons (t := .str) (cs := [_]) (h := []) (hs := []) rfl ⟨rfl, rfl⟩ .nil
theorem strings_Split_ok : EntryOk Tryd.prog GG 84 strings_SplitEnt.2 := by
  refine ent_row (ps := [.val .str, .val .str]) (t := .str) (el := 9) (GoFn.mk Tryd.f84 (by kernel_rfl) (by kernel_rfl) (by kernel_rfl)) (by simp [Ty.top]) rfl fun z r w φ vals gs hs hz hG ha => ?_
  have hz : strings_Split z.1 z.2 = some r := hz
  unfold strings_Split at hz
  split at hz
  case isFalse => cases hz
  case isTrue h01 =>
  injection hz with hz
  subst hz
  cases ha with
  | val h1 h2 h3 =>
  cases h3 with
  | val h4 h5 h6 =>
  cases h6
  obtain ⟨rfl, _⟩ := h2
  obtain ⟨rfl, _⟩ := h5
  obtain ⟨s, t⟩ := z
  obtain ⟨h01, h02⟩ := h01
  have h01 : s.length < 4294967281 := h01
  have h02 : t.length = 1 := h02
  refine (Tryd.strings_Split_shaped ⟨s.toArray⟩ ⟨t.toArray⟩ w hG.2.1 (Nat.lt_of_le_of_lt (Nat.le_of_eq (Eng.str_size s)) h01) (Nat.le_of_eq ((Eng.str_size t).trans h02).symm)).mono ?_
  rintro e w' ⟨rfl, rfl⟩
  have hl : (Lib.splitB ⟨t.toArray⟩ 0 (Lib.countB ⟨s.toArray⟩ ⟨t.toArray⟩) ⟨s.toArray⟩).length = Lib.countB ⟨s.toArray⟩ ⟨t.toArray⟩ + 1 := Lib.splitB_all _ (Nat.le_of_eq ((Eng.str_size t).trans h02).symm) 0 _ _ rfl
  have hcl : Lib.countB ⟨s.toArray⟩ ⟨t.toArray⟩ ≤ s.length := by
    have := Lib.countB_le ⟨t.toArray⟩ (Nat.le_of_eq ((Eng.str_size t).trans h02).symm) (List.length s) ⟨s.toArray⟩ (Nat.le_of_eq (Eng.str_size s))
    exact Nat.le_trans this (Nat.le_of_eq (Eng.str_size s))
  refine ⟨⟨splitS s t, ⟨w.heap.size, 0, none⟩, (Lib.splitB ⟨t.toArray⟩ 0 (Lib.countB ⟨s.toArray⟩ ⟨t.toArray⟩) ⟨s.toArray⟩).map (fun b => [Value.string b]), rfl, by unfold splitS; rw [List.length_map, hl], ?_, ?_⟩, (Below.refl _ _).alloc (Nat.le_refl _) _⟩
  · unfold splitS
    generalize Lib.splitB ⟨t.toArray⟩ 0 (Lib.countB ⟨s.toArray⟩ ⟨t.toArray⟩) ⟨s.toArray⟩ = l
    induction l with
    | nil => exact .nil
    | cons b r ih => exact .cons ⟨by simp [Eng.str], rfl⟩ ih
  · unfold splitS
    rw [List.length_map]
    generalize hq : Lib.splitB ⟨t.toArray⟩ 0 (Lib.countB ⟨s.toArray⟩ ⟨t.toArray⟩) ⟨s.toArray⟩ = l at hl
    have : (l.map (fun b => [Value.string b])).flatten = l.map Value.string := by
      clear hq hl
      induction l with
      | nil => rfl
      | cons b r ih => simp [ih]
    rw [this]
    refine ⟨by show _ = _ * 1; rw [List.length_map, Nat.mul_one], .inr ⟨w.heap.size, l.length, (l.map Value.string).toArray, rfl, Nat.le_refl _, ?_, Nat.le_refl _, by unfold maxLen; omega, ?_, ?_⟩⟩
    · show (w.heap.push _)[w.heap.size]? = _
      rw [Array.getElem?_push_size]
    · show _ = _ * 1; rw [List.size_toArray, List.length_map, Nat.mul_one]
    · show List.take (_ * 1) _ = _; rw [Nat.mul_one, List.take_of_length_le (by rw [List.length_map]; exact Nat.le_refl _)]
end Go.Fn
