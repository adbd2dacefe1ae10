/-
  Functions.
-/
import Derived.Test.YtkfcinmgebhbhaaDoorQSnd18
namespace Go.Lf
open Go Go.Eng

theorem unProd_cons {a : Ty} : ∀ {r : List Ty} (x : a.den) (y : prodT r), unProd (a :: r) (consP r x y) = ⟨a, x⟩ :: unProd r y
  | [], _, _ => rfl
  | _ :: _, _, _ => rfl
/-- the results, read one by one -/
inductive ResRun (P : Program) (tmps : Array Value) (w : World) : List ResultVar → List Value → Prop
  | nil : ResRun P tmps w [] []
  | tmp {t : Nat} {l : List ResultVar} {vs : List Value} : ResRun P tmps w l vs → ResRun P tmps w (.tmp t :: l) (tmps.getD t undef :: vs)
  | cell {t ty : Nat} {a : Addr} {v : Value} {l : List ResultVar} {vs : List Value} : tmps.getD t undef = .pointer (some a) → (loadVar ty a).run P w = .ok v w → ResRun P tmps w l vs → ResRun P tmps w (.cell t ty :: l) (v :: vs)
theorem results_ok {P : Program} {fn : Func} {slots : List ResultVar} {tmps : Array Value} {w : World} {vs : List Value} (h : fn.results = slots.toArray) (hr : ResRun P tmps w slots vs) :
    (results fn tmps).run P w = .ok (resVal vs) w := by
  have key : ∀ (g : ResultVar → Sem Value), (∀ t, g (.tmp t) = pure (tmps.getD t undef)) → (∀ t ty, g (.cell t ty) = do loadVar ty (← asAddr (tmps.getD t undef))) → (slots.mapM g).run P w = .ok vs w := fun g g1 g2 => by
    induction hr generalizing fn with
    | nil => rfl
    | @tmp t l vs _ ih =>
      simp only [List.mapM_cons, g1, Sem.run_bind, Sem.run_pure, Result.andThen_ok]
      rw [ih (fn := { fn with results := l.toArray }) rfl]
      rfl
    | @cell t ty a v l vs h1 h2 _ ih =>
      have h3 : (asAddr (tmps.getD t undef)).run P w = .ok a w := by rw [h1]; rfl
      simp only [List.mapM_cons, g2, Sem.run_bind, h3, h2, Result.andThen_ok]
      rw [ih (fn := { fn with results := l.toArray }) rfl]
      rfl
  unfold results
  rw [h, List.mapM_toArray]
  simp only [Sem.run_bind, Sem.run_map]
  rw [key _ (fun _ => rfl) (fun _ _ => rfl)]
  match vs with
  | [] => rfl
  | [_] => rfl
  | _ :: _ :: _ => rfl

section
variable {P : Program} {N : Nat} {C : Cx} {c : Ctx} {G : World → Prop} {S : St} {a : Act} {w : World}
variable {W : Wit} {e : Env} {eh oh : List Chunk}

theorem look_mem' {k : Nat} {v : Value} {e : Env} (h : Look e k v) : (k, v) ∈ e := by
  induction h with
  | here => exact List.mem_cons_self
  | there _ ih => exact List.mem_cons_of_mem _ ih
theorem argsR_len {φ : Phi} {ps : List Par} {z : prodT (ps.map Par.ty)} {vals : List Value} {gs : List (Nat × Nat)} {hs : List Chunk} (h : ArgsR φ ps z vals gs hs) : vals.length = ps.length := by
  induction h with
  | nil => rfl
  | val _ _ _ ih => simp [ih]
  | cfn _ ih => simp [ih]
  | obj _ _ ih => simp [ih]
theorem DsR.mono' {φ' : Phi} {ds : List D} {vs : List Value} {hh : List Chunk} (h : DsR W ds vs hh) (hle : W.φ.le φ') : DsR ⟨φ', W.adr, W.hd⟩ ds vs hh := by
  induction h with
  | nil => exact .nil
  | cons h1 _ ih => exact .cons (h1.same hle rfl rfl) ih
theorem _root_.Go.Eng.Fr.tmps {a : Act} {N : Nat} {e : Env} (h : Fr a N e) {ts : List Nat} : ∀ {vs : List Value}, EVA e (ts.map Operand.tmp) vs → vs = ts.map fun t => a.tmps.getD t undef := by
  induction ts with
  | nil => intro vs h1; cases h1; rfl
  | cons t r ih =>
    intro vs h1
    cases h1 with
    | cons h2 h3 =>
      rw [List.map_cons, ← ih h3]
      congr 1
      cases h2 with
      | t hl => exact (h.look hl).symm

def parKeys : Nat → List Par → List (Nat × Nat)
  | _, [] => []
  | i, .val _ :: r => parKeys (i + 1) r
  | i, .cfn _ :: r => parKeys (i + 1) r
  | i, .obj tid _ _ _ :: r => (i, tid) :: parKeys (i + 1) r

theorem EnvR.upd' {l : List (Nat × D)} {hs : List Chunk} (h : EnvR W l e hs) {j g : Nat} {cs : List Value} (hl : ∀ p ∈ l, (∃ t x, p.2 = .v t x) ∨ (∃ g, p.2 = .fn g) ∨ (∃ i q o, i ≠ j ∧ p.2 = .ref i q o)) : EnvR ⟨W.φ, upd W.adr j g, upd W.hd j cs⟩ l e hs := by
  induction h with
  | nil => exact .nil
  | @cons k d v h hs l e h1 _ ih =>
    refine .cons ?_ (ih fun p hp => hl p (List.mem_cons_of_mem _ hp))
    rcases hl _ List.mem_cons_self with ⟨t, x, hd⟩ | ⟨g, hd⟩ | ⟨i, q, o, hi, hd⟩
    · have hd : d = .v t x := hd
      subst hd; exact h1
    · have hd : d = .fn g := hd
      subst hd; exact h1
    · have hd : d = .ref i q o := hd
      subst hd
      refine ⟨?_, h1.2⟩
      have : upd W.adr j g i = W.adr i := by unfold upd; rw [if_neg hi]
      show v = .pointer (some ⟨upd W.adr j g i, o, none⟩)
      rw [this]; exact h1.1

theorem enterE_ok {φ : Phi} : ∀ (ps : List Par) (i : Nat) (z : prodT (ps.map Par.ty)) (vals : List Value) (gs : List (Nat × Nat)) (hs : List Chunk), ArgsR φ ps z vals gs hs →
    ∃ adr hd e eh oh, EnvR ⟨φ, adr, hd⟩ (enterE i ps z).env e eh ∧ ObR ⟨φ, adr, hd⟩ (enterE i ps z).objs oh ∧ hs.Perm (eh ++ oh) ∧ (∀ p ∈ e, i ≤ p.1 ∧ vals[p.1 - i]? = some p.2) ∧ (e.map (·.1)).Nodup ∧
      ((enterE i ps z).objs.map (·.1)).Nodup ∧ (∀ j ∈ (enterE i ps z).objs.map (·.1), i ≤ j) ∧ (∀ p ∈ (enterE i ps z).env, (∃ t x, p.2 = .v t x) ∨ (∃ g, p.2 = .fn g) ∨ (∃ j q o, i ≤ j ∧ p.2 = .ref j q o)) ∧
      gs = (parKeys i ps).map (fun p => (adr p.1, p.2)) ∧ (∀ p ∈ parKeys i ps, ∃ o, Look e p.1 (.pointer (some ⟨adr p.1, o, none⟩)))
  | [], i, z, vals, gs, hs, h => by
    cases h
    exact ⟨fun _ => 0, fun _ => [], [], [], [], .nil, .nil, List.Perm.refl _, by simp, by simp, by simp [enterE], by simp [enterE], by simp [enterE], rfl, by simp [parKeys]⟩
  | .val t :: r, i, z, vals, gs, hs, h => by
    cases h with
    | @val _ _ _ cs h0 hs' vs gs ht h1 h2 =>
    obtain ⟨adr, hd, e, eh, oh, q1, q2, q3, q4, q5, q6, q7, q8, q9, q10⟩ := enterE_ok r (i + 1) _ _ _ _ h2
    refine ⟨adr, hd, (i, sv t cs) :: e, h0 ++ eh, oh, .cons ⟨cs, ht, rfl, h1⟩ q1, q2, by rw [List.append_assoc]; exact q3.append_left h0, fun p hp => ?_, ?_, q6, fun j hj => Nat.le_of_succ_le (q7 j hj), fun p hp => ?_, q9, fun p hp => (let ⟨o, ho⟩ := q10 p hp; ⟨o, .there ho⟩)⟩
    · rcases List.mem_cons.1 hp with rfl | hp
      · simp
      · obtain ⟨g1, g2⟩ := q4 p hp
        refine ⟨by omega, ?_⟩
        rw [show p.1 - i = (p.1 - (i + 1)) + 1 by omega, List.getElem?_cons_succ]
        exact g2
    · simp only [List.map_cons, List.nodup_cons]
      refine ⟨fun hm => ?_, q5⟩
      obtain ⟨p, hp, hpi⟩ := List.mem_map.1 hm
      have := (q4 p hp).1
      omega
    · rcases List.mem_cons.1 hp with rfl | hp
      · exact .inl ⟨_, _, rfl⟩
      · exact (q8 p hp).imp id (Or.imp id fun ⟨j, q, o, hj, he⟩ => ⟨j, q, o, by omega, he⟩)
  | .cfn g :: r, i, z, vals, gs, hs, h => by
    cases h with
    | @cfn _ _ _ hs' vs gs h2 =>
    obtain ⟨adr, hd, e, eh, oh, q1, q2, q3, q4, q5, q6, q7, q8, q9, q10⟩ := enterE_ok r (i + 1) _ _ _ _ h2
    refine ⟨adr, hd, (i, .func (.func g) #[] #[]) :: e, [] ++ eh, oh, .cons ⟨rfl, rfl⟩ q1, q2, by simpa using q3, fun p hp => ?_, ?_, q6, fun j hj => Nat.le_of_succ_le (q7 j hj), fun p hp => ?_, q9, fun p hp => (let ⟨o, ho⟩ := q10 p hp; ⟨o, .there ho⟩)⟩
    · rcases List.mem_cons.1 hp with rfl | hp
      · simp
      · obtain ⟨g1, g2⟩ := q4 p hp
        refine ⟨by omega, ?_⟩
        rw [show p.1 - i = (p.1 - (i + 1)) + 1 by omega, List.getElem?_cons_succ]
        exact g2
    · simp only [List.map_cons, List.nodup_cons]
      refine ⟨fun hm => ?_, q5⟩
      obtain ⟨p, hp, hpi⟩ := List.mem_map.1 hm
      have := (q4 p hp).1
      omega
    · rcases List.mem_cons.1 hp with rfl | hp
      · exact .inr (.inl ⟨_, rfl⟩)
      · exact (q8 p hp).imp id (Or.imp id fun ⟨j, q, o, hj, he⟩ => ⟨j, q, o, by omega, he⟩)
  | .obj tid t t' p0 :: r, i, z, vals, gs, hs, h => by
    cases h with
    | @obj _ _ _ _ _ _ cs h0 hs' vs g gs h1 h2 =>
    obtain ⟨adr, hd, e, eh, oh, q1, q2, q3, q4, q5, q6, q7, q8, q9, q10⟩ := enterE_ok r (i + 1) _ _ _ _ h2
    have hki : i ∉ (enterE (i + 1) r (tailP (r.map Par.ty) z)).objs.map (·.1) := fun h => by have := q7 i h; omega
    have hkp : ∀ p ∈ parKeys (i + 1) r, upd adr i g p.1 = adr p.1 := fun p hp => by
      obtain ⟨_, h3⟩ := q10 p hp
      have : i ≠ p.1 := fun e' => by
        have h4 := q4 _ (look_mem' h3)
        have : p.1 = i := e'.symm
        simp only at h4
        omega
      unfold upd; rw [if_neg fun e => this e.symm]
    refine ⟨upd adr i g, upd hd i cs, (i, .pointer (some ⟨g, offP t p0, none⟩)) :: e, [] ++ eh, (blk g tid cs :: h0) ++ oh, .cons ⟨by show _ = Value.pointer (some ⟨upd adr i g i, offP t p0, none⟩); rw [upd_self], rfl⟩ (EnvR.upd' (W := ⟨φ, adr, hd⟩) q1 fun p hp => ?_), .cons ⟨h0, ?_, ?_⟩ (ObR.other (W := ⟨φ, adr, hd⟩) q2 hki g cs), ?_, fun p hp => ?_, ?_, ?_, fun j hj => ?_, fun p hp => ?_, ?_, fun p hp => ?_⟩
    · exact (q8 p hp).imp id (Or.imp id fun ⟨j, q, o, hj, he⟩ => ⟨j, q, o, by omega, he⟩)
    · show Rp φ t _ (upd hd i cs i) h0
      rw [upd_self]; exact h1
    · show _ = blk (upd adr i g i) tid (upd hd i cs i) :: h0
      rw [upd_self, upd_self]
    · rw [List.nil_append]
      exact ((q3.append_left (blk g tid cs :: h0))).trans (List.perm_append_comm_assoc _ _ _)
    · rcases List.mem_cons.1 hp with rfl | hp
      · simp
      · obtain ⟨g1, g2⟩ := q4 p hp
        refine ⟨by omega, ?_⟩
        rw [show p.1 - i = (p.1 - (i + 1)) + 1 by omega, List.getElem?_cons_succ]
        exact g2
    · simp only [List.map_cons, List.nodup_cons]
      refine ⟨fun hm => ?_, q5⟩
      obtain ⟨p, hp, hpi⟩ := List.mem_map.1 hm
      have := (q4 p hp).1
      omega
    · simp only [enterE, List.map_cons, List.nodup_cons]
      exact ⟨hki, q6⟩
    · simp only [enterE, List.map_cons, List.mem_cons] at hj
      rcases hj with rfl | hj
      · exact Nat.le_refl _
      · exact Nat.le_of_succ_le (q7 j hj)
    · rcases List.mem_cons.1 hp with rfl | hp
      · exact .inr (.inr ⟨i, _, _, Nat.le_refl _, rfl⟩)
      · exact (q8 p hp).imp id (Or.imp id fun ⟨j, q, o, hj, he⟩ => ⟨j, q, o, by omega, he⟩)
    · simp only [parKeys, List.map_cons, upd_self]
      rw [q9]
      congr 1
      exact List.map_congr_left fun p hp => by rw [hkp p hp]
    · rcases List.mem_cons.1 hp with rfl | hp
      · rw [upd_self]; exact ⟨_, .here⟩
      · rw [hkp p hp]; obtain ⟨o, ho⟩ := q10 p hp; exact ⟨o, .there ho⟩

theorem outE_ok {dead : List Nat} {g : Nat → List Chunk} (hO : ∀ j ob, look S.objs j = some ob → ObOk W j ob (g j)) : ∀ (ps : List Par) (i : Nat) (y : prodT (outs ps)), outE dead S i ps = some y →
    ∃ h2, ObsR W.φ ((parKeys i ps).map fun p => (W.adr p.1, p.2)) (unProd (outs ps) y) h2 ∧ Sub (((parKeys i ps).map (·.1)).flatMap g) h2 ∧ (∀ p ∈ parKeys i ps, (∃ q o, look S.env p.1 = some (.ref p.1 q o)) ∧ p.1 ∉ dead ∧ p.1 ∈ S.objs.map (·.1) ∧ i ≤ p.1) ∧ ((parKeys i ps).map (·.1)).Nodup
  | [], i, y, _ => ⟨[], .nil, Sub.refl _, by simp [parKeys], by simp [parKeys]⟩
  | .val t :: r, i, y, h => by
    obtain ⟨h2, q1, q2, q3, q4⟩ := outE_ok hO r (i + 1) y h
    exact ⟨h2, q1, q2, fun p hp => ⟨(q3 p hp).1, (q3 p hp).2.1, (q3 p hp).2.2.1, by have := (q3 p hp).2.2.2; omega⟩, q4⟩
  | .cfn g :: r, i, y, h => by
    obtain ⟨h2, q1, q2, q3, q4⟩ := outE_ok hO r (i + 1) y h
    exact ⟨h2, q1, q2, fun p hp => ⟨(q3 p hp).1, (q3 p hp).2.1, (q3 p hp).2.2.1, by have := (q3 p hp).2.2.2; omega⟩, q4⟩
  | .obj tid t t' p0 :: r, i, y, h => by
    unfold outE at h
    split at h
    case h_2 => cases h
    case h_1 j q0 o0 hl =>
    cases hb : Nat.beq j i with
    | false => rw [hb] at h; cases h
    | true =>
    have hji := Nat.eq_of_beq_eq_true hb
    subst hji
    rw [hb] at h
    cases hm : mem j dead with
    | true => rw [hm] at h; cases h
    | false =>
    rw [hm] at h
    simp only [cond_true, cond_false] at h
    cases hx : objOf S j tid t' with
    | none => rw [hx] at h; cases h
    | some x =>
    cases hy : outE dead S (j + 1) r with
    | none => rw [hx, hy] at h; cases h
    | some y' =>
    rw [hx, hy] at h
    injection h with h
    subst h
    obtain ⟨h2, q1, q2, q3, q4⟩ := outE_ok hO r (j + 1) y' hy
    unfold objOf at hx
    split at hx
    case h_2 => cases hx
    case h_1 tid' t2 x' hob =>
    cases hb2 : Nat.beq tid' tid with
    | false => rw [hb2] at hx; cases hx
    | true =>
    rw [hb2] at hx
    have hb2 := Nat.eq_of_beq_eq_true hb2
    subst hb2
    obtain ⟨h0, g1, g2⟩ := hO _ _ hob
    have g2 : g j = blk (W.adr j) tid' (W.hd j) :: h0 := g2
    obtain ⟨h0', g3, g4⟩ := coe_ok hx g1
    refine ⟨(blk (W.adr j) tid' (W.hd j) :: h0') ++ h2, ?_, ?_, ?_, ?_⟩
    · have : unProd (outs (.obj tid' t t' p0 :: r)) (consP (a := t') (outs r) x y') = ⟨t', x⟩ :: unProd (outs r) y' := unProd_cons x y'
      rw [this]
      exact .cons g3 q1
    · simp only [parKeys, List.map_cons, List.flatMap_cons]
      rw [g2]
      exact Sub.app (Sub.cons g4) q2
    · intro p hp
      rcases List.mem_cons.1 hp with rfl | hp
      · exact ⟨⟨_, _, hl⟩, mem_not hm, look_mem hob, Nat.le_refl _⟩
      · exact ⟨(q3 p hp).1, (q3 p hp).2.1, (q3 p hp).2.2.1, by have := (q3 p hp).2.2.2; omega⟩
    · simp only [parKeys, List.map_cons, List.nodup_cons]
      refine ⟨fun hm => ?_, q4⟩
      obtain ⟨p, hp, hpi⟩ := List.mem_map.1 hm
      have := (q3 p hp).2.2.2
      omega

theorem finE_ok {dead : List Nat} {ps : List Par} : ∀ (l : List Ty) (ds : List D) (vs : List Value) (hh : List Chunk) (y : prodT (l ++ outs ps)), finE dead S ps l ds = some y → DsR W ds vs hh → (∀ t ∈ l, t.top = true) →
    ∃ h1 y', TupR W.φ ((unProd (l ++ outs ps) y).take l.length) vs h1 ∧ (unProd (l ++ outs ps) y).drop l.length = unProd (outs ps) y' ∧ outE dead S 0 ps = some y' ∧ Sub hh h1
  | [], [], vs, hh, y, h, hd, _ => by
    cases hd
    exact ⟨[], y, .nil, rfl, h, Sub.refl _⟩
  | [], _ :: _, vs, hh, y, h, _, _ => by cases h
  | _ :: _, [], vs, hh, y, h, _, _ => by cases h
  | t :: l, d :: ds, vs, hh, y, h, hd, ht => by
    unfold finE at h
    cases hx : asTy t d with
    | none => rw [hx] at h; cases h
    | some x =>
    cases hy : finE dead S ps l ds with
    | none => rw [hx, hy] at h; cases h
    | some y' =>
    rw [hx, hy] at h
    injection h with h
    subst h
    cases hd with
    | @cons d v h1 h2 ds vs hd1 hd2 =>
    obtain ⟨cs, h1', rfl, q2, q3⟩ := asTy_ok hx hd1
    obtain ⟨h3, y2, g1, g2, g3, g4⟩ := finE_ok l ds vs h2 y' hy hd2 fun t' ht' => ht t' (List.mem_cons_of_mem _ ht')
    have e1 : unProd (t :: l ++ outs ps) (consP (a := t) (l ++ outs ps) x y') = ⟨t, x⟩ :: unProd (l ++ outs ps) y' := unProd_cons x y'
    refine ⟨h1' ++ h3, y2, ?_, ?_, g3, Sub.app q3 g4⟩
    · show TupR W.φ (List.take (l.length + 1) (unProd (t :: l ++ outs ps) (consP (a := t) (l ++ outs ps) x y'))) _ _
      rw [e1, List.take_succ_cons]
      exact .cons (ht t List.mem_cons_self) q2 g1
    · show List.drop (l.length + 1) (unProd (t :: l ++ outs ps) (consP (a := t) (l ++ outs ps) x y')) = _
      rw [e1, List.drop_succ_cons]
      exact g2

theorem cellE_ok (hc : CtxOk P G c) (hf : Fr a N e) {take : Bool} {s ty : Nat} {d : D} {S1 : St} (h : cellE c S take s ty = some (d, S1)) (hs : SRel S W e eh oh) {hv : List Chunk} (hb : Hb C w (hv ++ (eh ++ oh)) (Inv G W.φ)) :
    ∃ v φ' hh eh' oh' ad, a.tmps.getD s undef = .pointer (some ad) ∧ (loadVar ty ad).run P w = .ok v w ∧ W.φ.le φ' ∧ DR ⟨φ', W.adr, W.hd⟩ d v hh ∧ SRel S1 ⟨φ', W.adr, W.hd⟩ e eh' oh' ∧ Hb C w (hv ++ hh ++ (eh' ++ oh')) (Inv G φ') := by
  have hb0 : Hb C w (eh ++ oh) (Inv G W.φ) := (Sub.right (a := hv)).hb hb
  unfold cellE at h
  generalize hx : S.get (.tmp s) = dx at h
  split at h
  case h_2 => cases h
  case h_1 j p off =>
  have hev := hf.ev (get_ref hs.env hx)
  have hev : a.tmps.getD s undef = .pointer (some ⟨W.adr j, off, none⟩) := hev
  split at h
  · rename_i el t l i hat hi
    split at h
    case isFalse => cases h
    case isTrue he =>
    split at h
    case h_2 => cases h
    case h_1 y S2 hop =>
    simp only [Option.some.injEq, Prod.mk.injEq] at h
    obtain ⟨rfl, rfl⟩ := h
    obtain ⟨tb, pre, mid, post, hm, q1, q2, q3, q4, _⟩ := atC_cells hs.obs hat
    have hrun := load_run (hc.ty _ _ hi) he q3 (.inr ⟨_, _, rfl⟩) q2 (tb := tb) (pre := pre) (post := post) (w := w) (by rw [← q1]; exact hb0.has (List.mem_append_right _ q4))
    obtain ⟨t', l', rfl, v', φ', oh', g1, g2, g3, g4, g5⟩ := openx_ok hop hs hb
    obtain ⟨A, cc, css, m1, _⟩ := id q3
    have hv' : sv (.mr el t) mid = v' := by
      rw [q1, ← q2, m1] at g1
      simp at g1
      rw [m1, ← g1]; rfl
    exact ⟨_, φ', [], eh, oh', _, hev, hrun, g2, ⟨[v'], rfl, by rw [hv']; rfl, g3⟩, g4, by simpa using g5⟩
  · rename_i t y i _ hat hi
    split at h
    case isFalse => cases h
    case isTrue he =>
    cases htop : t.top with
    | false => rw [htop] at h; cases h
    | true =>
    rw [htop] at h
    simp only [cond_true] at h
    split at h
    case h_2 => cases h
    case h_1 y' hy =>
    split at h
    case h_2 => cases h
    case h_1 S2 hset =>
    obtain ⟨mid, hm, oh', r1, r2, r3, r4⟩ := take_ok (C := C) (G := G) (hc.ty _ _ hi) hat he htop hy hset hs
    cases take with
    | true =>
      simp only [cond_true, Option.some.injEq, Prod.mk.injEq] at h
      obtain ⟨rfl, rfl⟩ := h
      refine ⟨_, W.φ, hm, eh, oh', _, hev, r4 w hb0, W.φ.le_refl, ⟨mid, htop, rfl, r1⟩, r2, hb.perm ?_⟩
      rw [List.append_assoc]
      exact List.Perm.append_left hv ((List.Perm.append_left eh r3).trans (List.perm_append_comm_assoc _ _ _))
    | false =>
      simp only [cond_false, Option.some.injEq, Prod.mk.injEq] at h
      obtain ⟨rfl, rfl⟩ := h
      obtain ⟨h', p1, _⟩ := coe_ok hy r1
      have := Rp.er_nil (Ty.er_er t).symm p1
      subst this
      exact ⟨_, W.φ, [], eh, oh, _, hev, r4 w hb0, W.φ.le_refl, ⟨mid, coe_top hy htop, coe_sv hy mid, p1⟩, hs, by simpa using hb⟩
  · cases h
theorem resE_ok (hc : CtxOk P G c) (hf : Fr a N e) : ∀ (ts : List Ty) (l : List ResultVar) (S : St) (ds : List D) (S1 : St) (W : Wit) (eh oh hv : List Chunk), resE c S ts l = some (ds, S1) → SRel S W e eh oh → Hb C w (hv ++ (eh ++ oh)) (Inv G W.φ) →
    ∃ vs φ' hh eh' oh', ResRun P a.tmps w l vs ∧ W.φ.le φ' ∧ DsR ⟨φ', W.adr, W.hd⟩ ds vs hh ∧ SRel S1 ⟨φ', W.adr, W.hd⟩ e eh' oh' ∧ Hb C w (hv ++ hh ++ (eh' ++ oh')) (Inv G φ')
  | [], [], S, ds, S1, W, eh, oh, hv, h, hs, hb => by
    simp only [resE, Option.some.injEq, Prod.mk.injEq] at h
    obtain ⟨rfl, rfl⟩ := h
    exact ⟨[], W.φ, [], eh, oh, .nil, W.φ.le_refl, .nil, hs, by simpa using hb⟩
  | [], _ :: _, S, ds, S1, W, eh, oh, hv, h, hs, hb => by cases h
  | _ :: _, [], S, ds, S1, W, eh, oh, hv, h, hs, hb => by cases h
  | t :: ts, .tmp s :: l, S, ds, S1, W, eh, oh, hv, h, hs, hb => by
    unfold resE at h
    split at h
    case h_2 => cases h
    case h_1 d S2 hu =>
    split at h
    case h_2 => cases h
    case h_1 ds' S3 hr =>
    simp only [Option.some.injEq, Prod.mk.injEq] at h
    obtain ⟨rfl, rfl⟩ := h
    obtain ⟨v, φ1, h1, eh1, oh1, q1, q2, q3, q4, q5⟩ := use_ok hu hs hb
    obtain ⟨vs, φ2, h2, eh2, oh2, g1, g2, g3, g4, g5⟩ := resE_ok hc hf ts l _ _ _ _ _ _ _ hr q4 q5
    have hv' : v = a.tmps.getD s undef := (hf.ev q1).symm
    subst hv'
    exact ⟨_ :: vs, φ2, h1 ++ h2, eh2, oh2, .tmp g1, Phi.le_trans q2 g2, .cons (q3.same g2 rfl rfl) g3, g4, by simpa [List.append_assoc] using g5⟩
  | t :: ts, .cell s ty :: l, S, ds, S1, W, eh, oh, hv, h, hs, hb => by
    unfold resE at h
    split at h
    case h_2 => cases h
    case h_1 d S2 hu =>
    split at h
    case h_2 => cases h
    case h_1 ds' S3 hr =>
    simp only [Option.some.injEq, Prod.mk.injEq] at h
    obtain ⟨rfl, rfl⟩ := h
    obtain ⟨v, φ1, h1, eh1, oh1, ad, q0, q1, q2, q3, q4, q5⟩ := cellE_ok hc hf hu hs hb
    obtain ⟨vs, φ2, h2, eh2, oh2, g1, g2, g3, g4, g5⟩ := resE_ok hc hf ts l _ _ _ _ _ _ _ hr q4 q5
    exact ⟨v :: vs, φ2, h1 ++ h2, eh2, oh2, .cell q0 q1 g1, Phi.le_trans q2 g2, .cons (q3.same g2 rfl rfl) g3, g4, by simpa [List.append_assoc] using g5⟩

/-- a function's entry -/
theorem fn_ok (hm : P.follows .mixedOrders = true) (hc : CtxOk P G c) {f : FuncId} {fn : Func} {code : Code} {an : Ann} {ps : List Par} {rs : List Ty} {slots : List ResultVar} (hfn : P.funcs[f]? = some fn) (hbody : fn.body = some code) (hname : (fn.name == "runtime.NumGoroutine") = false)
    (hN : fn.ntmps = c.n) (hres : fn.results = slots.toArray) (hpl : ps.length ≤ c.n) (hpt : ∀ t, Par.val t ∈ ps → t.top = true) (hrt : ∀ t ∈ rs, t.top = true)
    {F : prodT (ps.map Par.ty) → Option (prodT (rs ++ outs ps))} (hF : ∀ z r, F z = some r → fnE c code an ps rs slots z = some r) : EntryOk P G f ⟨ps, rs, F⟩ := by
  refine ⟨GoFn.mk fn hfn hname (by rw [hbody]; rfl), hpt, fun z r hz C φ vals gs hs ha hb => ?_⟩
  have hz := hF z r hz
  have ha : ArgsR φ ps z vals gs hs := ha
  obtain ⟨adr, hd, e, eh, oh, q1, q2, q3, q4, q5, q6, q7, q8, q9, q10⟩ := enterE_ok ps 0 z vals gs hs ha
  have hvl : vals.length = ps.length := argsR_len ha
  refine calls_of_wp hfn hbody ?_
  have hf0 : Fr { tmps := vals.toArray ++ Array.replicate (fn.ntmps - vals.toArray.size) undef, defers := [] } c.n e := by
    refine ⟨?_, rfl, fun p hp => ?_, q5⟩
    · simp [hN]; omega
    · have h1 := (q4 p hp).2
      simp only [Nat.sub_zero] at h1
      have h2 := (List.getElem?_eq_some_iff.1 h1).1
      simp only [Array.getD_eq_getD_getElem?]
      rw [Array.getElem?_append_left (by simpa using h2)]
      simp [h1]
  have hb0 : Hb C C.w0 (eh ++ oh) (Inv G φ) := hb.perm q3
  have hat : At c.n C (fun w => G w ∧ Agree φ w) (enterE 0 ps z) { tmps := vals.toArray ++ Array.replicate (fn.ntmps - vals.toArray.size) undef, defers := [] } C.w0 :=
    ⟨⟨φ, adr, hd⟩, e, eh, oh, ⟨q1, q2, q6⟩, hf0, hb0.imp fun w hw => ⟨⟨hw.1, hw.2⟩, hw.2⟩⟩
  refine codeE_ok hm rfl code an _ _ _ r hz (fun w => G w ∧ Agree φ w) hc.more (fun a => ∀ t, t ∉ dsts code → a.tmps[t]? = (vals.toArray ++ Array.replicate (fn.ntmps - vals.toArray.size) undef)[t]?) (fun t ht v a' h' s hs => ?_) _ (fun x S hx a w hat ha => ?_) _ _ hat (fun _ _ => rfl)
  · rw [put_other fun e => (by subst e; exact hs ht)]; exact h' s hs
  have fin : (match resE c S rs slots with | some (ds, S1) => finE (dsts code) S1 ps rs ds | none => none) = some r →
      a.defers = [] ∧ ∃ v, (results fn a.tmps).run P w = .ok v w ∧ ∃ v' φ' h1 h2, Ending.returned v = .returned v' ∧ φ.le φ' ∧ Hb C w (h1 ++ h2) (Inv G φ') ∧ ResR φ' ((unProd (rs ++ outs ps) r).take rs.length) v' h1 ∧ ObsR φ' gs ((unProd (rs ++ outs ps) r).drop rs.length) h2 := by
    intro hx
    split at hx
    case h_2 => cases hx
    case h_1 ds S1 hu =>
    obtain ⟨W, e1, eh1, oh1, t1, t2, t3⟩ := hat
    obtain ⟨vs, φ1, hh, eh2, oh2, u1, u2, u3, u4, u5⟩ := resE_ok (G := fun w => G w ∧ Agree φ w) hc.more t2 rs slots _ _ _ _ _ _ [] hu t1 (by simpa using t3)
    obtain ⟨g, g1, g2⟩ := u4.obs.fam u4.nd
    have hInv := u5.get
    let φ2 : Phi := φ1.join φ
    have le1 : φ1.le φ2 := fun x v hx => by show (match φ1 x with | some v => some v | none => φ x) = some v; rw [hx]
    have le2 : φ.le φ2 := fun x v hx => by
      show (match φ1 x with | some v => some v | none => φ x) = some v
      cases h : φ1 x with
      | none => exact hx
      | some u =>
        have h1 := hInv.2 x u h
        have h2 := hInv.1.2 x v hx
        rw [h1] at h2
        exact h2
    obtain ⟨h1, y', p1, p2, p3, p4⟩ := finE_ok (W := ⟨φ2, W.adr, W.hd⟩) rs ds vs hh r hx (u3.mono' le1) hrt
    obtain ⟨h2, o1, o2, o3, o4⟩ := outE_ok (W := ⟨φ2, W.adr, W.hd⟩) (g := g) (fun j ob hj => by
      obtain ⟨h0, s1, s2⟩ := g1 _ (look_pair hj)
      exact ⟨h0, s1.mono le1, s2⟩) ps 0 y' p3
    have hadr : ∀ p ∈ parKeys 0 ps, W.adr p.1 = adr p.1 := fun p hp => by
      obtain ⟨⟨_, _, s1⟩, s2, s3, _⟩ := o3 p hp
      obtain ⟨v, h', _, l1, l2, _⟩ := u4.env.look s1
      obtain ⟨rfl, _⟩ := l2
      have e3 := t2.look l1
      obtain ⟨_, e40⟩ := q10 p hp
      have e4 := hf0.look e40
      rw [Array.getD_eq_getD_getElem?, ha _ s2, ← Array.getD_eq_getD_getElem?] at e3
      have e5 := e4.symm.trans e3
      simp only [Value.pointer.injEq, Option.some.injEq, Addr.mk.injEq] at e5
      exact e5.1.symm
    refine ⟨t2.defers, _, results_ok hres u1, _, φ2, h1, h2, rfl, le2, ?_, ⟨vs, p1, rfl⟩, ?_⟩
    · have hsub : Sub (([] ++ hh) ++ (eh2 ++ oh2)) (h1 ++ h2) := by
        rw [List.nil_append]
        refine Sub.app p4 (Sub.right.trans ?_)
        rw [g2]
        have hk := (keys_split u4.nd o4 (fun j hj => by
          obtain ⟨p, hp, rfl⟩ := List.mem_map.1 hj
          exact (o3 p hp).2.2.1)).flatMap_right (f := g)
        rw [List.flatMap_append] at hk
        exact (Sub.perm hk).trans (Sub.left.trans o2)
      refine (hsub.hb u5).imp fun w' hw' => ⟨hw'.1.1, fun x v hx => ?_⟩
      have hx : (match φ1 x with | some v => some v | none => φ x) = some v := hx
      cases h : φ1 x with
      | none => rw [h] at hx; exact hw'.1.2 x v hx
      | some u => rw [h] at hx; exact hw'.2 x v (h.trans hx)
    · rw [p2, q9]
      have : (parKeys 0 ps).map (fun p => (adr p.1, p.2)) = (parKeys 0 ps).map (fun p => (W.adr p.1, p.2)) := List.map_congr_left fun p hp => by rw [hadr p hp]
      rw [this]
      exact o1
  cases x with
  | nrm => exact fin hx
  | ret => exact fin hx
  | ext i => cases hx
end
end Go.Lf
