/-
  Operations that turn more than their slot: each kind.
-/
import Derived.Test.YtkfcinmgebhbhaaDoorQSnd7
namespace Go.Lf
open Go Go.Eng

section
variable {P : Program} {N : Nat} {C : Cx} {G : World → Prop} {c : Ctx} {S : St} {Rt : Type} {k : St → Option Rt} {r : Rt} {a : Act} {w : World}
variable {W : Wit} {e : Env} {eh oh : List Chunk} {dst : Option Tmp} {ty : TypeId} {pos : String} {af : Array Edge} {gd : Option (Nat × Bool)}

theorem EnvR.swap {l : List (Nat × D)} {hs : List Chunk} (h : EnvR W l e hs) {i : Nat} {d : D} (hk : Lf.look l i = some d) :
    ∃ v h1 r, Look e i v ∧ DR W d v h1 ∧ hs.Perm (h1 ++ r) ∧ ∀ d' h', DR W d' v h' → ∃ hs', EnvR W (putl l i d') e hs' ∧ hs'.Perm (h' ++ r) := by
  induction h with
  | nil => cases hk
  | @cons k' d0 v h hs l e h1 h2 ih =>
    rw [look_cons] at hk
    split at hk
    · rename_i hkk
      subst hkk
      simp only [Option.some.injEq] at hk
      subst hk
      refine ⟨v, h, hs, .here, h1, List.Perm.refl _, fun d' h' hd => ⟨h' ++ hs, ?_, List.Perm.refl _⟩⟩
      rw [putl_cons, if_pos rfl]
      exact .cons hd h2
    · rename_i hkk
      obtain ⟨v2, h3, r, q1, q2, q3, q4⟩ := ih hk
      refine ⟨v2, h3, h ++ r, .there q1, q2, (q3.append_left h).trans (List.perm_append_comm_assoc _ _ _), fun d' h' hd => ?_⟩
      obtain ⟨hs', g1, g2⟩ := q4 d' h' hd
      refine ⟨h ++ hs', ?_, (g2.append_left h).trans (List.perm_append_comm_assoc _ _ _)⟩
      rw [putl_cons, if_neg hkk]
      exact .cons h1 g1

theorem OpWp.value {o : Oper} {S' : St} {v : Value} {w' : World} (hr : (execOp a.eval o).run P w = .ok (.value v) w') (h : At N C G S' (a.put o.dst v) w') : OpWp P N C G o S' a w := by
  unfold OpWp; rw [hr]; exact h
theorem OpWp.skip {o : Oper} {S' : St} {w' : World} (hr : (execOp a.eval o).run P w = .ok .skip w') (h : At N C G S' (a.put o.dst undef) w') : OpWp P N C G o S' a w := by
  unfold OpWp; rw [hr]; exact h

/-- a new head of a slice that nobody else sees -/
theorem newA_ok (hn : c.n = N) {d el : Nat} {t : Ty} {l : List t.den} {S1 : St} (h : newA c d el t l S1 k = some r) :
    ∃ S', k S' = some r ∧ ∀ W e eh oh A cc css a w, SRel S1 W e eh oh → l.length ≤ cc → All2 (fun x cs => Rp W.φ t x cs []) l css → (0 < l.length → A.isSome = true) → Fr a N e →
      Hb C w (.row false (.slice A l.length cc) el t.size l.length css.flatten :: (eh ++ oh)) (Inv G W.φ) → At N C G S' (a.put (some d) (.slice A l.length cc)) w := by
  obtain ⟨S', h1, h2⟩ := newO_ok (C := C) (G := G) hn h
  refine ⟨S', h1, fun W e eh oh A cc css a w hs g1 g2 g3 hf hb => ?_⟩
  refine h2 W e eh oh 0 [.slice A l.length cc] [.row false (.slice A l.length cc) el t.size l.length css.flatten] _ a w hs ⟨A, cc, css, rfl, g1, g2, g3, rfl⟩ hf ⟨by simp [upd], rfl⟩ hb

theorem moveT_ok (hn : c.n = N) {x : Operand} {op : Op} (hop : op = .move x ∨ op = .assign x) (h : moveT c ⟨dst, op, ty, pos, af, gd⟩ S x k = some r) : ∃ S', k S' = some r ∧ ∀ a w, At N C G S a w → OpWp P N C G ⟨dst, op, ty, pos, af, gd⟩ S' a w := by
  have ex : ∀ (a : Act) w v, a.eval x = v → (execOp a.eval ⟨dst, op, ty, pos, af, gd⟩).run P w = .ok (.value v) w := by
    rintro a w v rfl
    rcases hop with rfl | rfl <;> rfl
  unfold moveT at h
  cases dst with
  | none => cases h
  | some d =>
    simp only at h
    split at h
    · rename_i el t hx ho
      obtain ⟨S', h1, h2⟩ := newA_ok (C := C) (G := G) hn h
      refine ⟨S', h1, fun a w ⟨W, e, eh, oh, hs, hf, hb⟩ => ?_⟩
      obtain ⟨v, hh, rr, q1, ⟨rfl, rfl⟩, _⟩ := raw_ok hs.env (x := x) (by rw [hx]; intro e; cases e) |> fun ⟨v, hh, rr, q1, q2, q3⟩ => (⟨v, hh, rr, q1, (by rw [hx] at q2; exact q2), q3⟩ : ∃ v h r, EV e x v ∧ (v = Value.slice none 0 0 ∧ h = []) ∧ eh.Perm (h ++ r))
      refine .value (ex a w _ (hf.ev q1)) ?_
      exact h2 W e eh oh none 0 [] a w hs (Nat.le_refl _) .nil (fun h => absurd h (by simp)) hf ((Sub.app (Sub.nilrow false el t.size) (Sub.refl _)).hb (by simpa using hb))
    · rename_i el t hx ho
      obtain ⟨S', h1, h2⟩ := out_ok (C := C) (G := G) hn h
      refine ⟨S', h1, fun a w ⟨W, e, eh, oh, hs, hf, hb⟩ => ?_⟩
      obtain ⟨v, hh, rr, q1, ⟨rfl, rfl⟩, _⟩ := raw_ok hs.env (x := x) (by rw [hx]; intro e; cases e) |> fun ⟨v, hh, rr, q1, q2, q3⟩ => (⟨v, hh, rr, q1, (by rw [hx] at q2; exact q2), q3⟩ : ∃ v h r, EV e x v ∧ (v = Value.slice none 0 0 ∧ h = []) ∧ eh.Perm (h ++ r))
      refine .value (ex a w _ (hf.ev q1)) ?_
      refine h2 W e eh oh _ [.row true (.slice none 0 0) el t.size 0 []] a w hs ⟨[.slice none 0 0], rfl, rfl, none, 0, [], rfl, Nat.le_refl _, .nil, fun h => absurd h (by simp), rfl⟩ hf ((Sub.app (Sub.nilrow true el t.size) (Sub.refl _)).hb (by simpa using hb))
    · rename_i t y hx
      obtain ⟨S', h1, h2⟩ := out_ok (C := C) (G := G) hn h
      refine ⟨S', h1, fun a w ⟨W, e, eh, oh, hs, hf, hb⟩ => ?_⟩
      obtain ⟨v, hh, eh', q1, q2, q3, q4⟩ := strip_ok hs hx (by intro e; cases e)
      refine .value (ex a w _ (hf.ev q1)) (h2 W e eh' oh v hh a w q3 q2 hf ?_)
      exact ((Sub.app q4 (Sub.refl oh)).trans (by rw [List.append_assoc]; exact Sub.refl _)).hb hb
    · rename_i l hx
      obtain ⟨S', h1, h2⟩ := out_ok (C := C) (G := G) hn h
      refine ⟨S', h1, fun a w ⟨W, e, eh, oh, hs, hf, hb⟩ => ?_⟩
      obtain ⟨v, hh, eh', q1, q2, q3, q4⟩ := strip_ok hs hx (by intro e; cases e)
      refine .value (ex a w _ (hf.ev q1)) (h2 W e eh' oh v hh a w q3 q2 hf ?_)
      exact ((Sub.app q4 (Sub.refl oh)).trans (by rw [List.append_assoc]; exact Sub.refl _)).hb hb
    · cases h

theorem TupR.take {φ : Phi} {L : List Dn} {vs : List Value} {h : List Chunk} (ht : TupR φ L vs h) {i : Nat} {t : Ty} {x : t.den} {y : t.er.den} (hi : L[i]? = some ⟨t, x⟩) (hy : coe t t.er x = some y) :
    ∃ cs h1 h', TGet vs i (sv t cs) ∧ t.top = true ∧ Rp φ t x cs h1 ∧ TupR φ (L.set i ⟨t.er, y⟩) vs h' ∧ Sub h (h1 ++ h') := by
  induction ht generalizing i with
  | nil => simp at hi
  | @cons t' x' cs h hs l vs h1 h2 h3 ih =>
    cases i with
    | zero =>
      simp only [List.getElem?_cons_zero, Option.some.injEq] at hi
      injection hi with e1 e2
      subst e1
      have e2 := eq_of_heq e2
      subst e2
      obtain ⟨h4, r1, _⟩ := coe_ok hy h2
      have := Rp.er_nil (Ty.er_er _).symm r1
      subst this
      refine ⟨cs, h, [] ++ hs, .here, h1, h2, ?_, Sub.refl _⟩
      rw [coe_sv hy cs]
      exact TupR.cons (coe_top hy h1) r1 h3
    | succ i =>
      obtain ⟨cs', h4, h5, q1, q2, q3, q4, q5⟩ := ih (by simpa using hi)
      refine ⟨cs', h4, h ++ h5, .skip q1, q2, q3, TupR.cons h1 h2 q4, ?_⟩
      exact (Sub.app (Sub.refl h) q5).trans (Sub.perm (List.perm_append_comm_assoc _ _ _))
theorem extractT_ok (hn : c.n = N) {x : Operand} {i : Nat} (h : extractT c ⟨dst, .extract x i, ty, pos, af, gd⟩ S x i k = some r) : ∃ S', k S' = some r ∧ ∀ a w, At N C G S a w → OpWp P N C G ⟨dst, .extract x i, ty, pos, af, gd⟩ S' a w := by
  unfold extractT at h
  split at h <;> first | cases h | skip
  rename_i s
  split at h <;> first | cases h | skip
  rename_i L hl
  split at h <;> first | cases h | skip
  rename_i t y hi
  cases htop : t.top with
  | false => rw [htop] at h; cases h
  | true =>
    rw [htop] at h
    simp only [cond_true] at h
    split at h
    · rename_i y' hy
      obtain ⟨S', h1, h2⟩ := out_ok (C := C) (G := G) hn h
      refine ⟨S', h1, fun a w ⟨W, e, eh, oh, hs, hf, hb⟩ => ?_⟩
      obtain ⟨v, h3, rr, q1, ⟨vs, rfl, q2⟩, q3, q4⟩ := hs.env.swap hl
      obtain ⟨cs, h4, h5, g1, g2, g3, g4, g5⟩ := q2.take hi hy
      obtain ⟨eh', k1, k2⟩ := q4 (.tup (L.set i ⟨t.er, y'⟩)) h5 ⟨vs, rfl, g4⟩
      have hrun := R.ex (P := P) (N := N) (C := C) (e := e) (hs := eh ++ oh) (I := Inv G W.φ) (d := dst) (ty := ty) (pos := pos) (af := af) (gd := gd) (.t q1) g1
      refine .value (hrun a w hf hb) (h2 W e eh' oh _ h4 a w ⟨k1, hs.obs, hs.nd⟩ ⟨cs, g2, rfl, g3⟩ hf ?_)
      refine (Sub.app ((Sub.perm q3).trans ((Sub.app g5 (Sub.refl rr)).trans ?_)) (Sub.refl oh) |>.trans (by rw [List.append_assoc]; exact Sub.refl _)).hb hb
      rw [List.append_assoc]
      exact Sub.app (Sub.refl h4) (Sub.perm k2.symm)
    · cases h
end
end Go.Lf
