/-
  Where ways meet: a state is read into a value, and laid out again.
-/
import Derived.Test.YtkfcinmgebhbhaaDoorQSnd15
import Derived.Test.YtkfcinmgebhbhaaDoorQCd
namespace Go.Lf
open Go Go.Eng

section
variable {P : Program} {N : Nat} {C : Cx} {G : World → Prop} {c : Ctx} {S : St} {Rt : Type} {k : St → Option Rt} {r : Rt} {a : Act} {w : World}
variable {W : Wit} {e : Env} {eh oh : List Chunk}

theorem nodupB_ok : ∀ {l : List Nat}, nodupB l = true → l.Nodup
  | [], _ => by simp
  | k :: r, h => by
    unfold nodupB at h
    cases hm : mem k r with
    | true => rw [hm] at h; cases h
    | false =>
      rw [hm] at h
      exact List.nodup_cons.2 ⟨mem_not hm, nodupB_ok h⟩
theorem dirsB_ok : ∀ {p q : List Dir}, dirsB p q = true → p = q
  | [], [], _ => rfl
  | .i :: r, .i :: q, h => by rw [dirsB_ok (p := r) (q := q) h]
  | .l :: r, .l :: q, h => by rw [dirsB_ok (p := r) (q := q) h]
  | .r :: r, .r :: q, h => by rw [dirsB_ok (p := r) (q := q) h]
  | [], _ :: _, h => by cases h
  | .i :: _, [], h => by cases h
  | .l :: _, [], h => by cases h
  | .r :: _, [], h => by cases h
  | .i :: _, .l :: _, h => by cases h
  | .i :: _, .r :: _, h => by cases h
  | .l :: _, .i :: _, h => by cases h
  | .l :: _, .r :: _, h => by cases h
  | .r :: _, .i :: _, h => by cases h
  | .r :: _, .l :: _, h => by cases h

theorem EnvR.keys {l : List (Nat × D)} {hs : List Chunk} (h : EnvR W l e hs) : l.map (·.1) = e.map (·.1) := by
  induction h with
  | nil => rfl
  | cons _ _ ih => simp [ih]
theorem EnvR.append {l l' : List (Nat × D)} {e e' : Env} {hs hs' : List Chunk} (h : EnvR W l e hs) (h' : EnvR W l' e' hs') : EnvR W (l ++ l') (e ++ e') (hs ++ hs') := by
  induction h with
  | nil => exact h'
  | cons h1 _ ih => rw [List.append_assoc]; exact .cons h1 ih
theorem look_some_mem {α : Type} {l : List (Nat × α)} {k : Nat} (h : k ∈ l.map (·.1)) : ∃ v, look l k = some v := by
  induction l with
  | nil => cases h
  | cons p r ih =>
    rw [show p = (p.1, p.2) from rfl, look_cons]
    split
    · exact ⟨_, rfl⟩
    · rename_i hne
      simp only [List.map_cons, List.mem_cons] at h
      exact ih (h.resolve_left fun e => hne e.symm)

/-- a frame as a family -/
theorem EnvR.fam {l : List (Nat × D)} {hs : List Chunk} (h : EnvR W l e hs) (nd : (e.map (·.1)).Nodup) : ∃ f : Nat → List Chunk, (∀ k d, Lf.look l k = some d → ∃ v, Look e k v ∧ DR W d v (f k)) ∧ hs = (l.map (·.1)).flatMap f := by
  induction h with
  | nil => exact ⟨fun _ => [], fun k d hk => (by cases hk), rfl⟩
  | @cons j d v h hs l e h1 h2 ih =>
    simp only [List.map_cons, List.nodup_cons] at nd
    obtain ⟨f, q1, q2⟩ := ih nd.2
    have hj : j ∉ l.map (·.1) := by rw [h2.keys]; exact nd.1
    refine ⟨upd f j h, fun k d' hk => ?_, ?_⟩
    · rw [look_cons] at hk
      split at hk
      · rename_i he
        subst he
        simp only [Option.some.injEq] at hk
        subst hk
        exact ⟨v, .here, by rw [upd_self]; exact h1⟩
      · rename_i hne
        obtain ⟨v', g1, g2⟩ := q1 k d' hk
        exact ⟨v', .there g1, by unfold upd; rw [if_neg fun e => hne e.symm]; exact g2⟩
    · simp only [List.map_cons, List.flatMap_cons, upd_self]
      rw [q2]
      congr 1
      exact flatMap_upd hj

theorem EnvR.other {l : List (Nat × D)} {hs : List Chunk} (h : EnvR W l e hs) {j : Nat} {cs : List Value} (hl : ∀ p ∈ l, (∃ t x, p.2 = .v t x) ∨ (∃ i, i ≠ j ∧ p.2 = .aref i [] 0)) : EnvR ⟨W.φ, W.adr, upd W.hd j cs⟩ l e hs := by
  induction h with
  | nil => exact .nil
  | @cons k d v h hs l e h1 _ ih =>
    refine .cons ?_ (ih fun p hp => hl p (List.mem_cons_of_mem _ hp))
    rcases hl _ List.mem_cons_self with ⟨t, x, hd⟩ | ⟨i, hi, hd⟩
    · have hd : d = .v t x := hd
      subst hd; exact h1
    · have hd : d = .aref i [] 0 := hd
      subst hd
      exact ⟨by show (upd W.hd j cs i)[0]? = some v; unfold upd; rw [if_neg hi]; exact h1.1, h1.2⟩
theorem ObR.other' {l : List (Nat × Ob)} {hs : List Chunk} (h : ObR W l hs) {j : Nat} (hj : j ∉ l.map (·.1)) (cs : List Value) : ObR ⟨W.φ, W.adr, upd W.hd j cs⟩ l hs := by
  have h1 := h.other hj (W.adr j) cs
  rwa [upd_same] at h1

def Ty.isMr : Ty → Bool | .mr _ _ => true | _ => false
theorem putV_v {o : List (Nat × Nat × Ty)} {k : Nat} {t : Ty} {l : List (Nat × Ty)} {z : prodT (((k, t) :: l).map (·.2) ++ o.map (·.2.2))} (ht : t.isMr = false) :
    putV o ((k, t) :: l) z = ⟨(k, .v t (headP (a := t) (l.map (·.2) ++ o.map (·.2.2)) z)) :: (putV o l (tailP (a := t) _ z)).env, (putV o l (tailP (a := t) _ z)).objs⟩ := by
  cases t <;> first | rfl | cases ht
theorem varOf_v {k : Nat} {t : Ty} {x : t.den} (ht : t.isMr = false) (h : varOf S k t = some x) : ∃ d, look S.env k = some d ∧ t.top = true ∧ asTy t d = some x := by
  have : varOf S k t = match look S.env k with | some d => bif t.top then asTy t d else none | none => none := by cases t <;> first | rfl | cases ht
  rw [this] at h
  split at h
  · rename_i d hd
    cases hb : t.top with
    | false => rw [hb] at h; cases h
    | true => rw [hb] at h; exact ⟨d, hd, rfl, h⟩
  · cases h
theorem mrsOf_v {k : Nat} {t : Ty} {l : List (Nat × Ty)} (ht : t.isMr = false) : mrsOf S ((k, t) :: l) = mrsOf S l ∧ mrKeys ((k, t) :: l) = mrKeys l := by
  cases t <;> first | exact ⟨rfl, rfl⟩ | cases ht

theorem putO_keys : ∀ (o : List (Nat × Nat × Ty)) (z : prodT (o.map (·.2.2))), (putO o z).map (·.1) = o.map (·.1)
  | [], _ => rfl
  | (j, tid, t) :: r, z => by simp only [putO, List.map_cons]; rw [putO_keys r]
theorem putV_keys {o : List (Nat × Nat × Ty)} : ∀ (l : List (Nat × Ty)) (z : prodT (l.map (·.2) ++ o.map (·.2.2))), (putV o l z).env.map (·.1) = l.map (·.1) ∧ (putV o l z).objs.map (·.1) = mrKeys l ++ o.map (·.1) ∧
    ∀ p ∈ (putV o l z).env, (∃ t x, p.2 = .v t x) ∨ (∃ i, i ∈ mrKeys l ∧ p.2 = .aref i [] 0)
  | [], z => ⟨rfl, putO_keys _ _, fun p hp => by cases hp⟩
  | (k, t) :: r, z => by
    cases ht : t.isMr with
    | true =>
      cases t <;> first | cases ht | skip
      rename_i el a
      obtain ⟨h1, h2, h3⟩ := putV_keys r (tailP (a := .mr el a) _ z)
      refine ⟨?_, ?_, ?_⟩
      · simp only [putV, List.map_cons]; rw [h1]
      · simp only [putV, mrKeys, List.map_cons, List.cons_append]; rw [h2]
      · intro p hp
        rcases List.mem_cons.1 hp with rfl | hp
        · exact .inr ⟨k, List.mem_cons_self, rfl⟩
        · exact (h3 p hp).imp id fun ⟨i, hi, he⟩ => ⟨i, List.mem_cons_of_mem _ hi, he⟩
    | false =>
      obtain ⟨h1, h2, h3⟩ := putV_keys r (tailP (a := t) _ z)
      rw [putV_v ht, (mrsOf_v (S := ⟨[], []⟩) (k := k) (l := r) ht).2]
      refine ⟨by simp only [List.map_cons]; rw [h1], h2, fun p hp => ?_⟩
      rcases List.mem_cons.1 hp with rfl | hp
      · exact .inl ⟨_, _, rfl⟩
      · exact h3 p hp

theorem getO_ok {g : Nat → List Chunk} (hO : ∀ j ob, look S.objs j = some ob → ObOk W j ob (g j)) : ∀ (o : List (Nat × Nat × Ty)) (z : prodT (o.map (·.2.2))), getO S o = some z → ∃ oh, ObR W (putO o z) oh ∧ Sub ((o.map (·.1)).flatMap g) oh
  | [], z, _ => ⟨[], .nil, Sub.refl _⟩
  | (j, tid, t) :: r, z, h => by
    unfold getO at h
    split at h
    case h_2 => cases h
    case h_1 x y hx hy =>
    injection h with h
    subst h
    obtain ⟨oh, q1, q2⟩ := getO_ok hO r y hy
    unfold objOf at hx
    split at hx
    case h_2 => cases hx
    case h_1 tid' t' x' hob =>
    cases hb : Nat.beq tid' tid with
    | false => rw [hb] at hx; cases hx
    | true =>
    rw [hb] at hx
    have hb := Nat.eq_of_beq_eq_true hb
    subst hb
    obtain ⟨h0, g1, g2⟩ := hO _ _ hob
    obtain ⟨h0', g3, g4⟩ := coe_ok hx g1
    have g2 : g j = blk (W.adr j) tid' (W.hd j) :: h0 := g2
    refine ⟨(blk (W.adr j) tid' (W.hd j) :: h0') ++ oh, ?_, ?_⟩
    · unfold putO
      refine .cons ⟨h0', ?_, rfl⟩ ?_
      · show Rp W.φ t (headP (a := t) (r.map (·.2.2)) (consP (a := t) _ x y)) _ _
        rw [headP_cons]; exact g3
      · show ObR W (putO r (tailP (a := t) (r.map (·.2.2)) (consP (a := t) _ x y))) oh
        rw [tailP_cons]; exact q1
    · simp only [List.map_cons, List.flatMap_cons]
      rw [g2]
      exact Sub.app (Sub.cons g4) q2

theorem getV_ok {f g : Nat → List Chunk} (hE : ∀ k d, look S.env k = some d → ∃ v, Look e k v ∧ DR W d v (f k)) (hO : ∀ j ob, look S.objs j = some ob → ObOk W j ob (g j)) {o : List (Nat × Nat × Ty)} :
    ∀ (l : List (Nat × Ty)) (z : prodT (l.map (·.2) ++ o.map (·.2.2))), getV S o l = some z → (mrKeys l ++ o.map (·.1)).Nodup →
      ∃ hd' ev eh oh, EnvR ⟨W.φ, W.adr, hd'⟩ (putV o l z).env ev eh ∧ (∀ p ∈ ev, Look e p.1 p.2) ∧ ObR ⟨W.φ, W.adr, hd'⟩ (putV o l z).objs oh ∧ Sub ((l.map (·.1)).flatMap f ++ (mrsOf S l ++ o.map (·.1)).flatMap g) (eh ++ oh) ∧
        (∀ j ∈ l.map (·.1), j ∈ S.env.map (·.1)) ∧ (∀ j ∈ mrsOf S l, j ∈ S.objs.map (·.1))
  | [], z, h, _ => by
    obtain ⟨oh, q1, q2⟩ := getO_ok hO o z h
    exact ⟨W.hd, [], [], oh, .nil, (fun p hp => by cases hp), q1, q2, by simp, by simp [mrsOf]⟩
  | (k, t) :: l, z, h, nd => by
    unfold getV at h
    split at h
    case h_2 => cases h
    case h_1 x y hx hy =>
    injection h with h
    subst h
    cases ht : t.isMr with
    | false =>
      have hm := mrsOf_v (S := S) (k := k) (l := l) ht
      rw [hm.2] at nd
      obtain ⟨hd', ev, eh, oh, q1, q2, q3, q4, q5, q6⟩ := getV_ok hE hO l y hy nd
      obtain ⟨d, g1, g2, g3⟩ := varOf_v ht hx
      obtain ⟨v, g4, g5⟩ := hE _ _ g1
      obtain ⟨cs, h', rfl, g6, g7⟩ := asTy_ok g3 g5
      rw [putV_v ht, hm.1]
      refine ⟨hd', (k, sv t cs) :: ev, h' ++ eh, oh, ?_, ?_, ?_, ?_, ?_, q6⟩
      · refine .cons ⟨cs, g2, rfl, ?_⟩ ?_
        · show Rp W.φ t (headP (a := t) (l.map (·.2) ++ o.map (·.2.2)) (consP (a := t) _ x y)) _ _
          rw [headP_cons]; exact g6
        · show EnvR _ (putV o l (tailP (a := t) (l.map (·.2) ++ o.map (·.2.2)) (consP (a := t) _ x y))).env _ _
          rw [tailP_cons]; exact q1
      · intro p hp
        rcases List.mem_cons.1 hp with rfl | hp
        · exact g4
        · exact q2 p hp
      · show ObR _ (putV o l (tailP (a := t) (l.map (·.2) ++ o.map (·.2.2)) (consP (a := t) _ x y))).objs _
        rw [tailP_cons]; exact q3
      · simp only [List.map_cons, List.flatMap_cons]
        rw [List.append_assoc, List.append_assoc]
        exact Sub.app g7 q4
      · intro j hj
        rcases List.mem_cons.1 hj with rfl | hj
        · exact look_mem g1
        · exact q5 j hj
    | true =>
      cases t <;> first | cases ht | skip
      rename_i el a _
      simp only [mrKeys, List.cons_append, List.nodup_cons] at nd
      obtain ⟨hd', ev, eh, oh, q1, q2, q3, q4, q5, q6⟩ := getV_ok hE hO l y hy nd.2
      replace hx : (match look S.env k with
        | some (.aref j [] 0) => match look S.objs j with
          | some ⟨none, t', l⟩ => if h : t' = .mr el a then some (h ▸ l : (Ty.mr el a).den) else none
          | _ => none
        | _ => none) = some x := hx
      split at hx
      case h_2 => cases hx
      case h_1 j hlk =>
      split at hx
      case h_2 => cases hx
      case h_1 t' l' hob =>
      split at hx
      case isFalse => cases hx
      case isTrue he =>
      subst he
      simp only [Option.some.injEq] at hx
      subst hx
      obtain ⟨v, g4, g5⟩ := hE _ _ hlk
      obtain ⟨h0, g6, g7⟩ := hO _ _ hob
      have g7 : g j = h0 := g7
      obtain ⟨k1, k2, k3⟩ := putV_keys (o := o) l y
      have hfk : f k = [] := g5.2
      refine ⟨upd hd' k (W.hd j), (k, v) :: ev, [] ++ eh, h0 ++ oh, ?_, ?_, ?_, ?_, ?_, ?_⟩
      · unfold putV
        refine .cons ⟨by show (upd hd' k (W.hd j) k)[0]? = some v; rw [upd_self]; exact g5.1, rfl⟩ ?_
        show EnvR _ (putV o l (tailP (a := .mr el a) (l.map (·.2) ++ o.map (·.2.2)) (consP (a := .mr el a) _ _ y))).env _ _
        rw [tailP_cons]
        refine EnvR.other (W := ⟨W.φ, W.adr, hd'⟩) q1 fun p hp => ?_
        exact (k3 p hp).imp id fun ⟨i, hi, he⟩ => ⟨i, fun e => nd.1 (e ▸ List.mem_append_left _ hi), he⟩
      · intro p hp
        rcases List.mem_cons.1 hp with rfl | hp
        · exact g4
        · exact q2 p hp
      · unfold putV
        refine .cons ⟨h0, ?_, rfl⟩ ?_
        · show Rp W.φ (.mr el a) (headP (a := .mr el a) (l.map (·.2) ++ o.map (·.2.2)) (consP (a := .mr el a) _ _ y)) (upd hd' k (W.hd j) k) _
          rw [headP_cons, upd_self]; exact g6
        · show ObR _ (putV o l (tailP (a := .mr el a) (l.map (·.2) ++ o.map (·.2.2)) (consP (a := .mr el a) _ _ y))).objs _
          rw [tailP_cons]
          exact ObR.other' (W := ⟨W.φ, W.adr, hd'⟩) q3 (by rw [k2]; exact nd.1) _
      · have hmr : mrsOf S ((k, .mr el a) :: l) = j :: mrsOf S l := by simp only [mrsOf, hlk]
        rw [hmr]
        simp only [List.map_cons, List.flatMap_cons, List.cons_append, List.nil_append]
        rw [hfk, g7, List.nil_append]
        refine (Sub.perm (List.perm_append_comm_assoc _ _ _)).trans ?_
        refine (Sub.app (Sub.refl h0) q4).trans (Sub.perm (List.perm_append_comm_assoc _ _ _))
      · intro i hi
        rcases List.mem_cons.1 hi with rfl | hi
        · exact look_mem hlk
        · exact q5 i hi
      · have hmr : mrsOf S ((k, .mr el a) :: l) = j :: mrsOf S l := by simp only [mrsOf, hlk]
        rw [hmr]
        intro i hi
        rcases List.mem_cons.1 hi with rfl | hi
        · exact look_mem hob
        · exact q6 i hi

theorem getO_keys : ∀ (o : List (Nat × Nat × Ty)) (z : prodT (o.map (·.2.2))), getO S o = some z → ∀ j ∈ o.map (·.1), j ∈ S.objs.map (·.1)
  | [], z, _ => by simp
  | (j, tid, t) :: r, z, h => by
    unfold getO at h
    split at h
    case h_2 => cases h
    case h_1 x y hx hy =>
    intro i hi
    rcases List.mem_cons.1 hi with rfl | hi
    · unfold objOf at hx
      split at hx
      case h_2 => cases hx
      case h_1 hob => exact look_mem hob
    · exact getO_keys r y hy i hi
theorem getV_okeys {o : List (Nat × Nat × Ty)} : ∀ (l : List (Nat × Ty)) (z : prodT (l.map (·.2) ++ o.map (·.2.2))), getV S o l = some z → ∃ z', getO S o = some z'
  | [], z, h => ⟨z, h⟩
  | (k, t) :: l, z, h => by
    unfold getV at h
    split at h
    case h_2 => cases h
    case h_1 x y hx hy => exact getV_okeys l y hy

theorem still_ok {W' : Wit} {d : D} {v : Value} {h : List Chunk} (hs : d.still = true) (hle : W.φ.le W'.φ) (hd : DR W d v h) : DR W' d v [] := by
  cases d with
  | v t x =>
    obtain ⟨cs, h1, h2, h3⟩ := hd
    have ht : t = t.er := of_decide_eq_true hs
    have := Rp.er_nil ht h3
    subst this
    exact ⟨cs, h1, h2, h3.mono hle⟩
  | fro t x => obtain ⟨ad, cs, q1, q2, q3, _⟩ := hd; exact ⟨ad, cs, q1, q2.mono hle, q3.mono hle, rfl⟩
  | fn f => exact ⟨hd.1, rfl⟩
  | nils => exact ⟨hd.1, rfl⟩
  | nilp => exact ⟨hd.1, rfl⟩
  | niI => exact ⟨hd.1, rfl⟩
  | _ => cases hs
theorem keepE_ok {W' : Wit} {E : List (Nat × D)} {e0 : Env} {eh0 : List Chunk} (hE : EnvR W E e0 eh0) (hle : W.φ.le W'.φ) : ∀ (ks dead : List Nat), ∃ ek, EnvR W' (keepE dead ks E) ek [] ∧ (∀ p ∈ ek, Look e0 p.1 p.2 ∧ p.1 ∉ dead) ∧ (ek.map (·.1)).Nodup
  | [], dead => ⟨[], .nil, by simp, by simp⟩
  | k :: ks, dead => by
    unfold keepE
    cases hm : mem k dead with
    | true => exact keepE_ok hE hle ks dead
    | false =>
      simp only [cond_false]
      cases hl : look E k with
      | none => exact keepE_ok hE hle ks dead
      | some d =>
        simp only
        cases hs : d.still with
        | false => exact keepE_ok hE hle ks dead
        | true =>
          obtain ⟨ek, q1, q2, q3⟩ := keepE_ok hE hle ks (k :: dead)
          obtain ⟨v, h, _, g1, g2, _⟩ := hE.look hl
          refine ⟨(k, v) :: ek, EnvR.cons (h := []) (still_ok hs hle g2) q1, fun p hp => ?_, ?_⟩
          · rcases List.mem_cons.1 hp with rfl | hp
            · exact ⟨g1, mem_not hm⟩
            · obtain ⟨h1, h2⟩ := q2 p hp
              exact ⟨h1, fun h => h2 (List.mem_cons_of_mem _ h)⟩
          · simp only [List.map_cons, List.nodup_cons]
            refine ⟨fun hk => ?_, q3⟩
            obtain ⟨p, hp, hpk⟩ := List.mem_map.1 hk
            exact (q2 p hp).2 (hpk ▸ List.mem_cons_self)
theorem refE_ok {W' : Wit} (hadr : W'.adr = W.adr) {hs : List Chunk} (hE : EnvR W S.env e hs) : ∀ (l : List (Nat × Nat × List Dir × Nat)), refsB S l = true → ∃ er, EnvR W' (refE l) er [] ∧ (∀ p ∈ er, Look e p.1 p.2) ∧ er.map (·.1) = l.map (·.1)
  | [], _ => ⟨[], .nil, by simp, rfl⟩
  | (k, j, p, o) :: l, h => by
    unfold refsB at h
    split at h
    case h_2 => cases h
    case h_1 j' p' o' hl =>
    cases hb : (Nat.beq j j' && Nat.beq o o' && dirsB p p') with
    | false => rw [hb] at h; cases h
    | true =>
      rw [hb] at h
      simp only [Bool.and_eq_true] at hb
      have e1 := Nat.eq_of_beq_eq_true hb.1.1
      have e2 := Nat.eq_of_beq_eq_true hb.1.2
      have e3 := dirsB_ok hb.2
      subst e1 e2 e3
      obtain ⟨er, q1, q2, q3⟩ := refE_ok hadr hE l h
      obtain ⟨v, h', _, g1, g2, _⟩ := hE.look hl
      refine ⟨(k, v) :: er, EnvR.cons (h := []) ⟨by rw [hadr]; exact g2.1, rfl⟩ q1, fun p hp => ?_, by simp [q3]⟩
      rcases List.mem_cons.1 hp with rfl | hp
      · exact g1
      · exact q2 p hp

def Phi.join (a b : Phi) : Phi := fun x => match a x with | some v => some v | none => b x

/-- a state is read, and laid out again -/
theorem mk_ok {s : Shape} {S0 : St} {W0 : Wit} {e0 : Env} {eh0 : List Chunk} {a0 : Act} {dead : List Nat} {z : prodT s.tys} (hG : ∀ w, G w → Agree W0.φ w) (hE0 : EnvR W0 S0.env e0 eh0) (hf0 : Fr a0 N e0) (hK : ∀ t, t ∉ dead → a.tmps[t]? = a0.tmps[t]?)
    (hget : s.get S = some z) (hat : At N C G S a w) : At N C G (s.mk' dead S0 z) a w := by
  obtain ⟨W, e, eh, oh, hs, hf, hb⟩ := hat
  unfold Shape.get at hget
  cases hc : (s.ok && nodupB (mrsOf S s.var ++ s.obj.map (·.1)) && refsB S s.ref) with
  | false => rw [hc] at hget; cases hget
  | true =>
  rw [hc] at hget
  simp only [Bool.and_eq_true, Shape.ok] at hc
  obtain ⟨⟨⟨hc1, hc2⟩, hc3⟩, hc4⟩ := hc
  have hc1 := nodupB_ok hc1
  have hc2 := nodupB_ok hc2
  have hc3 := nodupB_ok hc3
  obtain ⟨f, f1, f2⟩ := hs.env.fam hf.nd
  obtain ⟨g, g1, g2⟩ := hs.obs.fam hs.nd
  have hInv := hb.get
  let φ2 : Phi := W.φ.join W0.φ
  have le1 : W.φ.le φ2 := fun x v hx => by show (match W.φ x with | some v => some v | none => W0.φ x) = some v; rw [hx]
  have le2 : W0.φ.le φ2 := fun x v hx => by
    show (match W.φ x with | some v => some v | none => W0.φ x) = some v
    cases h : W.φ x with
    | none => exact hx
    | some u =>
      have h1 := hInv.2 x u h
      have h2 := hG w hInv.1 x v hx
      rw [h1] at h2
      exact h2
  obtain ⟨hd', ev, eh1, oh1, q1, q2, q3, q4, q5, q6⟩ := getV_ok (W := ⟨φ2, W.adr, W.hd⟩) (f := f) (g := g) (fun k d hk => by
      obtain ⟨v, h1, h2⟩ := f1 k d hk
      exact ⟨v, h1, h2.same le1 rfl rfl⟩) (fun j ob hj => by
      obtain ⟨h0, t1, t2⟩ := g1 _ (look_pair hj)
      exact ⟨h0, t1.mono le1, t2⟩) s.var z hget hc2
  obtain ⟨ek, k1, k2, k3⟩ := keepE_ok (W' := ⟨φ2, W.adr, hd'⟩) hE0 le2 s.keep (dead ++ (s.var.map (·.1) ++ s.ref.map (·.1)))
  obtain ⟨er, r1, r2, r3⟩ := refE_ok (W := W) (W' := ⟨φ2, W.adr, hd'⟩) rfl hs.env s.ref hc4
  have hkv : ev.map (·.1) = s.var.map (·.1) := by rw [← q1.keys, (putV_keys s.var z).1]
  refine ⟨⟨φ2, W.adr, hd'⟩, ek ++ (er ++ ev), [] ++ ([] ++ eh1), oh1, ⟨k1.append (r1.append q1), q3, ?_⟩, ⟨hf.size, hf.defers, ?_, ?_⟩, ?_⟩
  · show ((putV s.obj s.var z).objs.map (·.1)).Nodup
    rw [(putV_keys s.var z).2.1]; exact hc2
  · intro p hp
    rcases List.mem_append.1 hp with hp | hp
    · obtain ⟨h1, h2⟩ := k2 p hp
      rw [← hf0.look h1]
      rw [Array.getD_eq_getD_getElem?, Array.getD_eq_getD_getElem?, hK p.1 fun h => h2 (List.mem_append_left _ h)]
    · rcases List.mem_append.1 hp with hp | hp
      · exact hf.look (r2 p hp)
      · exact hf.look (q2 p hp)
  · rw [List.map_append, List.map_append, r3, hkv]
    refine List.nodup_append.2 ⟨k3, ?_, ?_⟩
    · exact (List.perm_append_comm.nodup_iff).1 hc1
    · intro i hi j hj he
      subst he
      obtain ⟨p, hp, rfl⟩ := List.mem_map.1 hi
      refine (k2 p hp).2 (List.mem_append_right _ ?_)
      rcases List.mem_append.1 hj with h | h
      · exact List.mem_append_right _ h
      · exact List.mem_append_left _ h
  · simp only [List.nil_append]
    have hsub : Sub (eh ++ oh) (eh1 ++ oh1) := by
      refine Sub.trans ?_ q4
      rw [f2, g2]
      obtain ⟨z', hz'⟩ := getV_okeys s.var z hget
      have p1 := (keys_split (by rw [hs.env.keys]; exact hf.nd) (List.nodup_append.1 hc1).1 q5).flatMap_right (f := f)
      have p2 := (keys_split hs.nd hc3 (fun j hj => by
        rcases List.mem_append.1 hj with h | h
        · exact q6 j h
        · exact getO_keys s.obj z' hz' j h)).flatMap_right (f := g)
      rw [List.flatMap_append] at p1 p2
      refine Sub.app ?_ ?_
      · exact (Sub.perm p1).trans Sub.left
      · rw [List.flatMap_append] at p2 ⊢
        exact (Sub.perm p2).trans Sub.left
    refine (hsub.hb hb).imp fun w' hw' => ⟨hw'.1, fun x v hx => ?_⟩
    have hx : (match W.φ x with | some v => some v | none => W0.φ x) = some v := hx
    cases h : W.φ x with
    | none => rw [h] at hx; exact hG w' hw'.1 x v hx
    | some u => rw [h] at hx; exact hw'.2 x v (h.trans hx)
end
end Go.Lf
