/-
  Functions.
-/
import Derived.Test.YtjpejkeobcdobaaDoorQAC
import Derived.Shelf.Strings.Builder1
import Derived.Shelf.Strings.BuilderF
import Derived.Shelf.Strings.BuilderK
import Derived.Shelf.Strconv.Atoi
import Derived.Shelf.Strconv.Itoa0
import Derived.Shelf.Strconv.Itoa1
import Derived.Shelf.LaysM
import Derived.Shelf.Strconv.Itoa2
import Derived.Shelf.Strconv.Itoa3
import Derived.Shelf.Strconv.AtoiErrFast
import Derived.Shelf.Strconv.ParseIntEmpty
import Derived.Shelf.Strconv.AtoiFail
import Derived.Shelf.Strconv.Clone
import Derived.Shelf.Strconv.SyntaxError
import Derived.Shelf.LaysC
import Derived.Shelf.Strconv.ToError
import Derived.Shelf.Strconv.Lower
import Derived.Shelf.Strconv.ParseUint10
import Derived.Shelf.Strconv.ParseUint10Empty
import Derived.Shelf.Strconv.ParseUint10Any
import Derived.Shelf.Strconv.ParseInt10
import Derived.Shelf.Strconv.AtoiLong
import Derived.Shelf.Strconv.AtoiInnerAll
import Derived.Shelf.Strconv.RangeError
import Derived.Shelf.Strconv.ToErrorRange
import Derived.Shelf.Strconv.AtoiAll
import Derived.Shelf.Strconv.ErrVarAll
import Derived.Shelf.Strings.Search1
import Derived.Shelf.Strings.Search2
import Derived.Shelf.Strings.Cut
import Derived.Shelf.Strings.Shaped
import Derived.Shelf.Unicode.DecodeSlow
import Derived.Shelf.Unicode.DecodeAny
import Derived.Shelf.Strings.FieldsFuncAny
import Derived.Shelf.Strings.FieldsFuncGrows
import Derived.Test.YtjpejkeobcdobaaDoorProg
import Derived.Lib.FrozenHead2
import Derived.Lib.OthersKept
import Derived.KernelRfl
import Derived.Shelf.Strings.BuilderRune
import Derived.Lib.TrimU
import Derived.Laws.RangeAny
import Derived.Lib.SmallJoins
namespace Go.Lf
open Go Go.Eng

theorem unProd_cons {a : Ty} : ∀ {r : List Ty} (x : a.den) (y : prodT r), unProd (a :: r) (consP r x y) = ⟨a, x⟩ :: unProd r y
  | [], _, _ => rfl
  | _ :: _, _, _ => rfl
/-- the results, read one by one -/
inductive ResRun (P : Program) (tmps : Array Value) (w : World) : List ResultVar → List Value → Prop
  | nil : ResRun P tmps w [] []
  | tmp {t : Nat} {l : List ResultVar} {vs : List Value} : ResRun P tmps w l vs → ResRun P tmps w (.tmp t :: l) (tmps.getD t undef :: vs)
  | cell {t ty : Nat} {a : Addr} {v : Value} {l : List ResultVar} {vs : List Value} : tmps.getD t undef = .pointer (some a) → (loadVar ty a).run P w = .ok v w → ResRun P tmps w l vs → ResRun P tmps w (.cell t ty :: l) (v :: vs)
theorem results_ok {P : Program} {fn : Func} {slots : List ResultVar} {tmps : Array Value} {w : World} {vs : List Value} (h : fn.results = slots.toArray) (hr : ResRun P tmps w slots vs) :
    (results fn tmps).run P w = .ok (resVal vs) w := by
  have key : ∀ (g : ResultVar → Sem Value), (∀ t, g (.tmp t) = pure (tmps.getD t undef)) → (∀ t ty, g (.cell t ty) = do loadVar ty (← asAddr (tmps.getD t undef))) → (slots.mapM g).run P w = .ok vs w := fun g g1 g2 => by
    induction hr generalizing fn with
    | nil => rfl
    | @tmp t l vs _ ih =>
      simp only [List.mapM_cons, g1, Sem.run_bind, Sem.run_pure, Result.andThen_ok]
      rw [ih (fn := { fn with results := l.toArray }) rfl]
      rfl
    | @cell t ty a v l vs h1 h2 _ ih =>
      have h3 : (asAddr (tmps.getD t undef)).run P w = .ok a w := by rw [h1]; rfl
      simp only [List.mapM_cons, g2, Sem.run_bind, h3, h2, Result.andThen_ok]
      rw [ih (fn := { fn with results := l.toArray }) rfl]
      rfl
  unfold results
  rw [h, List.mapM_toArray]
  simp only [Sem.run_bind, Sem.run_map]
  rw [key _ (fun _ => rfl) (fun _ _ => rfl)]
  match vs with
  | [] => rfl
  | [_] => rfl
  | _ :: _ :: _ => rfl

section
variable {P : Program} {N : Nat} {C : Cx} {c : Ctx} {G : World → Prop} {S : St} {a : Act} {w : World}
variable {W : Wit} {e : Env} {eh oh : List Chunk}

theorem look_mem' {k : Nat} {v : Value} {e : Env} (h : Look e k v) : (k, v) ∈ e := by
  induction h with
  | here => exact List.mem_cons_self
  | there _ ih => exact List.mem_cons_of_mem _ ih
theorem argsR_len {φ : Phi} {ps : List Par} {z : prodT (ps.map Par.ty)} {vals : List Value} {gs : List (Nat × Nat)} {hs : List Chunk} (h : ArgsR φ ps z vals gs hs) : vals.length = ps.length := by
  induction h with
  | nil => rfl
  | val _ _ _ ih => simp [ih]
  | cfn _ ih => simp [ih]
  | obj _ _ ih => simp [ih]
theorem DsR.mono' {φ' : Phi} {ds : List D} {vs : List Value} {hh : List Chunk} (h : DsR W ds vs hh) (hle : W.φ.le φ') : DsR ⟨φ', W.adr, W.hd⟩ ds vs hh := by
  induction h with
  | nil => exact .nil
  | cons h1 _ ih => exact .cons (h1.same hle rfl rfl) ih
theorem _root_.Go.Eng.Fr.tmps {a : Act} {N : Nat} {e : Env} (h : Fr a N e) {ts : List Nat} : ∀ {vs : List Value}, EVA e (ts.map Operand.tmp) vs → vs = ts.map fun t => a.tmps.getD t undef := by
  induction ts with
  | nil => intro vs h1; cases h1; rfl
  | cons t r ih =>
    intro vs h1
    cases h1 with
    | cons h2 h3 =>
      rw [List.map_cons, ← ih h3]
      congr 1
      cases h2 with
      | t hl => exact (h.look hl).symm

def parKeys : Nat → List Par → List (Nat × Nat)
  | _, [] => []
  | i, .val _ :: r => parKeys (i + 1) r
  | i, .cfn _ :: r => parKeys (i + 1) r
  | i, .obj tid _ _ _ :: r => (i, tid) :: parKeys (i + 1) r

theorem EnvR.upd' {l : List (Nat × D)} {hs : List Chunk} (h : EnvR W l e hs) {j g : Nat} {cs : List Value} (hl : ∀ p ∈ l, (∃ t x, p.2 = .v t x) ∨ (∃ g, p.2 = .fn g) ∨ (∃ i q o, i ≠ j ∧ p.2 = .ref i q o)) : EnvR ⟨W.φ, upd W.adr j g, upd W.hd j cs⟩ l e hs := by
  induction h with
  | nil => exact .nil
  | @cons k d v h hs l e h1 _ ih =>
    refine .cons ?_ (ih fun p hp => hl p (List.mem_cons_of_mem _ hp))
    rcases hl _ List.mem_cons_self with ⟨t, x, hd⟩ | ⟨g, hd⟩ | ⟨i, q, o, hi, hd⟩
    · have hd : d = .v t x := hd
      subst hd; exact h1
    · have hd : d = .fn g := hd
      subst hd; exact h1
    · have hd : d = .ref i q o := hd
      subst hd
      refine ⟨?_, h1.2⟩
      have : upd W.adr j g i = W.adr i := by unfold upd; rw [if_neg hi]
      show v = .pointer (some ⟨upd W.adr j g i, o, none⟩)
      rw [this]; exact h1.1

theorem enterE_ok {φ : Phi} : ∀ (ps : List Par) (i : Nat) (z : prodT (ps.map Par.ty)) (vals : List Value) (gs : List (Nat × Nat)) (hs : List Chunk), ArgsR φ ps z vals gs hs →
    ∃ adr hd e eh oh, EnvR ⟨φ, adr, hd⟩ (enterE i ps z).env e eh ∧ ObR ⟨φ, adr, hd⟩ (enterE i ps z).objs oh ∧ hs.Perm (eh ++ oh) ∧ (∀ p ∈ e, i ≤ p.1 ∧ vals[p.1 - i]? = some p.2) ∧ (e.map (·.1)).Nodup ∧
      ((enterE i ps z).objs.map (·.1)).Nodup ∧ (∀ j ∈ (enterE i ps z).objs.map (·.1), i ≤ j) ∧ (∀ p ∈ (enterE i ps z).env, (∃ t x, p.2 = .v t x) ∨ (∃ g, p.2 = .fn g) ∨ (∃ j q o, i ≤ j ∧ p.2 = .ref j q o)) ∧
      gs = (parKeys i ps).map (fun p => (adr p.1, p.2)) ∧ (∀ p ∈ parKeys i ps, ∃ o, Look e p.1 (.pointer (some ⟨adr p.1, o, none⟩)))
  | [], i, z, vals, gs, hs, h => by
    cases h
    exact ⟨fun _ => 0, fun _ => [], [], [], [], .nil, .nil, List.Perm.refl _, by simp, by simp, by simp [enterE], by simp [enterE], by simp [enterE], rfl, by simp [parKeys]⟩
  | .val t :: r, i, z, vals, gs, hs, h => by
    cases h with
    | @val _ _ _ cs h0 hs' vs gs ht h1 h2 =>
    obtain ⟨adr, hd, e, eh, oh, q1, q2, q3, q4, q5, q6, q7, q8, q9, q10⟩ := enterE_ok r (i + 1) _ _ _ _ h2
    refine ⟨adr, hd, (i, sv t cs) :: e, h0 ++ eh, oh, .cons ⟨cs, ht, rfl, h1⟩ q1, q2, by rw [List.append_assoc]; exact q3.append_left h0, fun p hp => ?_, ?_, q6, fun j hj => Nat.le_of_succ_le (q7 j hj), fun p hp => ?_, q9, fun p hp => (let ⟨o, ho⟩ := q10 p hp; ⟨o, .there ho⟩)⟩
    · rcases List.mem_cons.1 hp with rfl | hp
      · simp
      · obtain ⟨g1, g2⟩ := q4 p hp
        refine ⟨by omega, ?_⟩
        rw [show p.1 - i = (p.1 - (i + 1)) + 1 by omega, List.getElem?_cons_succ]
        exact g2
    · simp only [List.map_cons, List.nodup_cons]
      refine ⟨fun hm => ?_, q5⟩
      obtain ⟨p, hp, hpi⟩ := List.mem_map.1 hm
      have := (q4 p hp).1
      omega
    · rcases List.mem_cons.1 hp with rfl | hp
      · exact .inl ⟨_, _, rfl⟩
      · exact (q8 p hp).imp id (Or.imp id fun ⟨j, q, o, hj, he⟩ => ⟨j, q, o, by omega, he⟩)
  | .cfn g :: r, i, z, vals, gs, hs, h => by
    cases h with
    | @cfn _ _ _ hs' vs gs h2 =>
    obtain ⟨adr, hd, e, eh, oh, q1, q2, q3, q4, q5, q6, q7, q8, q9, q10⟩ := enterE_ok r (i + 1) _ _ _ _ h2
    refine ⟨adr, hd, (i, .func (.func g) #[] #[]) :: e, [] ++ eh, oh, .cons ⟨rfl, rfl⟩ q1, q2, by simpa using q3, fun p hp => ?_, ?_, q6, fun j hj => Nat.le_of_succ_le (q7 j hj), fun p hp => ?_, q9, fun p hp => (let ⟨o, ho⟩ := q10 p hp; ⟨o, .there ho⟩)⟩
    · rcases List.mem_cons.1 hp with rfl | hp
      · simp
      · obtain ⟨g1, g2⟩ := q4 p hp
        refine ⟨by omega, ?_⟩
        rw [show p.1 - i = (p.1 - (i + 1)) + 1 by omega, List.getElem?_cons_succ]
        exact g2
    · simp only [List.map_cons, List.nodup_cons]
      refine ⟨fun hm => ?_, q5⟩
      obtain ⟨p, hp, hpi⟩ := List.mem_map.1 hm
      have := (q4 p hp).1
      omega
    · rcases List.mem_cons.1 hp with rfl | hp
      · exact .inr (.inl ⟨_, rfl⟩)
      · exact (q8 p hp).imp id (Or.imp id fun ⟨j, q, o, hj, he⟩ => ⟨j, q, o, by omega, he⟩)
  | .obj tid t t' p0 :: r, i, z, vals, gs, hs, h => by
    cases h with
    | @obj _ _ _ _ _ _ cs h0 hs' vs g gs h1 h2 =>
    obtain ⟨adr, hd, e, eh, oh, q1, q2, q3, q4, q5, q6, q7, q8, q9, q10⟩ := enterE_ok r (i + 1) _ _ _ _ h2
    have hki : i ∉ (enterE (i + 1) r (tailP (r.map Par.ty) z)).objs.map (·.1) := fun h => by have := q7 i h; omega
    have hkp : ∀ p ∈ parKeys (i + 1) r, upd adr i g p.1 = adr p.1 := fun p hp => by
      obtain ⟨_, h3⟩ := q10 p hp
      have : i ≠ p.1 := fun e' => by
        have h4 := q4 _ (look_mem' h3)
        have : p.1 = i := e'.symm
        simp only at h4
        omega
      unfold upd; rw [if_neg fun e => this e.symm]
    refine ⟨upd adr i g, upd hd i cs, (i, .pointer (some ⟨g, offP t p0, none⟩)) :: e, [] ++ eh, (blk g tid cs :: h0) ++ oh, .cons ⟨by show _ = Value.pointer (some ⟨upd adr i g i, offP t p0, none⟩); rw [upd_self], rfl⟩ (EnvR.upd' (W := ⟨φ, adr, hd⟩) q1 fun p hp => ?_), .cons ⟨h0, ?_, ?_⟩ (ObR.other (W := ⟨φ, adr, hd⟩) q2 hki g cs), ?_, fun p hp => ?_, ?_, ?_, fun j hj => ?_, fun p hp => ?_, ?_, fun p hp => ?_⟩
    · exact (q8 p hp).imp id (Or.imp id fun ⟨j, q, o, hj, he⟩ => ⟨j, q, o, by omega, he⟩)
    · show Rp φ t _ (upd hd i cs i) h0
      rw [upd_self]; exact h1
    · show _ = blk (upd adr i g i) tid (upd hd i cs i) :: h0
      rw [upd_self, upd_self]
    · rw [List.nil_append]
      exact ((q3.append_left (blk g tid cs :: h0))).trans (List.perm_append_comm_assoc _ _ _)
    · rcases List.mem_cons.1 hp with rfl | hp
      · simp
      · obtain ⟨g1, g2⟩ := q4 p hp
        refine ⟨by omega, ?_⟩
        rw [show p.1 - i = (p.1 - (i + 1)) + 1 by omega, List.getElem?_cons_succ]
        exact g2
    · simp only [List.map_cons, List.nodup_cons]
      refine ⟨fun hm => ?_, q5⟩
      obtain ⟨p, hp, hpi⟩ := List.mem_map.1 hm
      have := (q4 p hp).1
      omega
    · simp only [enterE, List.map_cons, List.nodup_cons]
      exact ⟨hki, q6⟩
    · simp only [enterE, List.map_cons, List.mem_cons] at hj
      rcases hj with rfl | hj
      · exact Nat.le_refl _
      · exact Nat.le_of_succ_le (q7 j hj)
    · rcases List.mem_cons.1 hp with rfl | hp
      · exact .inr (.inr ⟨i, _, _, Nat.le_refl _, rfl⟩)
      · exact (q8 p hp).imp id (Or.imp id fun ⟨j, q, o, hj, he⟩ => ⟨j, q, o, by omega, he⟩)
    · simp only [parKeys, List.map_cons, upd_self]
      rw [q9]
      congr 1
      exact List.map_congr_left fun p hp => by rw [hkp p hp]
    · rcases List.mem_cons.1 hp with rfl | hp
      · rw [upd_self]; exact ⟨_, .here⟩
      · rw [hkp p hp]; obtain ⟨o, ho⟩ := q10 p hp; exact ⟨o, .there ho⟩

theorem outE_ok {dead : List Nat} {g : Nat → List Chunk} (hO : ∀ j ob, look S.objs j = some ob → ObOk W j ob (g j)) : ∀ (ps : List Par) (i : Nat) (y : prodT (outs ps)), outE dead S i ps = some y →
    ∃ h2, ObsR W.φ ((parKeys i ps).map fun p => (W.adr p.1, p.2)) (unProd (outs ps) y) h2 ∧ Sub (((parKeys i ps).map (·.1)).flatMap g) h2 ∧ (∀ p ∈ parKeys i ps, (∃ q o, look S.env p.1 = some (.ref p.1 q o)) ∧ p.1 ∉ dead ∧ p.1 ∈ S.objs.map (·.1) ∧ i ≤ p.1) ∧ ((parKeys i ps).map (·.1)).Nodup
  | [], i, y, _ => ⟨[], .nil, Sub.refl _, by simp [parKeys], by simp [parKeys]⟩
  | .val t :: r, i, y, h => by
    obtain ⟨h2, q1, q2, q3, q4⟩ := outE_ok hO r (i + 1) y h
    exact ⟨h2, q1, q2, fun p hp => ⟨(q3 p hp).1, (q3 p hp).2.1, (q3 p hp).2.2.1, by have := (q3 p hp).2.2.2; omega⟩, q4⟩
  | .cfn g :: r, i, y, h => by
    obtain ⟨h2, q1, q2, q3, q4⟩ := outE_ok hO r (i + 1) y h
    exact ⟨h2, q1, q2, fun p hp => ⟨(q3 p hp).1, (q3 p hp).2.1, (q3 p hp).2.2.1, by have := (q3 p hp).2.2.2; omega⟩, q4⟩
  | .obj tid t t' p0 :: r, i, y, h => by
    unfold outE at h
    split at h
    case h_2 => cases h
    case h_1 j q0 o0 hl =>
    cases hb : Nat.beq j i with
    | false => rw [hb] at h; cases h
    | true =>
    have hji := Nat.eq_of_beq_eq_true hb
    subst hji
    rw [hb] at h
    cases hm : mem j dead with
    | true => rw [hm] at h; cases h
    | false =>
    rw [hm] at h
    simp only [cond_true, cond_false] at h
    cases hx : objOf S j tid t' with
    | none => rw [hx] at h; cases h
    | some x =>
    cases hy : outE dead S (j + 1) r with
    | none => rw [hx, hy] at h; cases h
    | some y' =>
    rw [hx, hy] at h
    injection h with h
    subst h
    obtain ⟨h2, q1, q2, q3, q4⟩ := outE_ok hO r (j + 1) y' hy
    unfold objOf at hx
    split at hx
    case h_2 => cases hx
    case h_1 tid' t2 x' hob =>
    cases hb2 : Nat.beq tid' tid with
    | false => rw [hb2] at hx; cases hx
    | true =>
    rw [hb2] at hx
    have hb2 := Nat.eq_of_beq_eq_true hb2
    subst hb2
    obtain ⟨h0, g1, g2⟩ := hO _ _ hob
    have g2 : g j = blk (W.adr j) tid' (W.hd j) :: h0 := g2
    obtain ⟨h0', g3, g4⟩ := coe_ok hx g1
    refine ⟨(blk (W.adr j) tid' (W.hd j) :: h0') ++ h2, ?_, ?_, ?_, ?_⟩
    · have : unProd (outs (.obj tid' t t' p0 :: r)) (consP (a := t') (outs r) x y') = ⟨t', x⟩ :: unProd (outs r) y' := unProd_cons x y'
      rw [this]
      exact .cons g3 q1
    · simp only [parKeys, List.map_cons, List.flatMap_cons]
      rw [g2]
      exact Sub.app (Sub.cons g4) q2
    · intro p hp
      rcases List.mem_cons.1 hp with rfl | hp
      · exact ⟨⟨_, _, hl⟩, mem_not hm, look_mem hob, Nat.le_refl _⟩
      · exact ⟨(q3 p hp).1, (q3 p hp).2.1, (q3 p hp).2.2.1, by have := (q3 p hp).2.2.2; omega⟩
    · simp only [parKeys, List.map_cons, List.nodup_cons]
      refine ⟨fun hm => ?_, q4⟩
      obtain ⟨p, hp, hpi⟩ := List.mem_map.1 hm
      have := (q3 p hp).2.2.2
      omega

theorem finE_ok {dead : List Nat} {ps : List Par} : ∀ (l : List Ty) (ds : List D) (vs : List Value) (hh : List Chunk) (y : prodT (l ++ outs ps)), finE dead S ps l ds = some y → DsR W ds vs hh → (∀ t ∈ l, t.top = true) →
    ∃ h1 y', TupR W.φ ((unProd (l ++ outs ps) y).take l.length) vs h1 ∧ (unProd (l ++ outs ps) y).drop l.length = unProd (outs ps) y' ∧ outE dead S 0 ps = some y' ∧ Sub hh h1
  | [], [], vs, hh, y, h, hd, _ => by
    cases hd
    exact ⟨[], y, .nil, rfl, h, Sub.refl _⟩
  | [], _ :: _, vs, hh, y, h, _, _ => by cases h
  | _ :: _, [], vs, hh, y, h, _, _ => by cases h
  | t :: l, d :: ds, vs, hh, y, h, hd, ht => by
    unfold finE at h
    cases hx : asTy t d with
    | none => rw [hx] at h; cases h
    | some x =>
    cases hy : finE dead S ps l ds with
    | none => rw [hx, hy] at h; cases h
    | some y' =>
    rw [hx, hy] at h
    injection h with h
    subst h
    cases hd with
    | @cons d v h1 h2 ds vs hd1 hd2 =>
    obtain ⟨cs, h1', rfl, q2, q3⟩ := asTy_ok hx hd1
    obtain ⟨h3, y2, g1, g2, g3, g4⟩ := finE_ok l ds vs h2 y' hy hd2 fun t' ht' => ht t' (List.mem_cons_of_mem _ ht')
    have e1 : unProd (t :: l ++ outs ps) (consP (a := t) (l ++ outs ps) x y') = ⟨t, x⟩ :: unProd (l ++ outs ps) y' := unProd_cons x y'
    refine ⟨h1' ++ h3, y2, ?_, ?_, g3, Sub.app q3 g4⟩
    · show TupR W.φ (List.take (l.length + 1) (unProd (t :: l ++ outs ps) (consP (a := t) (l ++ outs ps) x y'))) _ _
      rw [e1, List.take_succ_cons]
      exact .cons (ht t List.mem_cons_self) q2 g1
    · show List.drop (l.length + 1) (unProd (t :: l ++ outs ps) (consP (a := t) (l ++ outs ps) x y')) = _
      rw [e1, List.drop_succ_cons]
      exact g2

theorem cellE_ok (hc : CtxOk P G c) (hf : Fr a N e) {take : Bool} {s ty : Nat} {d : D} {S1 : St} (h : cellE c S take s ty = some (d, S1)) (hs : SRel S W e eh oh) {hv : List Chunk} (hb : Hb C w (hv ++ (eh ++ oh)) (Inv G W.φ)) :
    ∃ v φ' hh eh' oh' ad, a.tmps.getD s undef = .pointer (some ad) ∧ (loadVar ty ad).run P w = .ok v w ∧ W.φ.le φ' ∧ DR ⟨φ', W.adr, W.hd⟩ d v hh ∧ SRel S1 ⟨φ', W.adr, W.hd⟩ e eh' oh' ∧ Hb C w (hv ++ hh ++ (eh' ++ oh')) (Inv G φ') := by
  have hb0 : Hb C w (eh ++ oh) (Inv G W.φ) := (Sub.right (a := hv)).hb hb
  unfold cellE at h
  generalize hx : S.get (.tmp s) = dx at h
  split at h
  case h_2 => cases h
  case h_1 j p off =>
  have hev := hf.ev (get_ref hs.env hx)
  have hev : a.tmps.getD s undef = .pointer (some ⟨W.adr j, off, none⟩) := hev
  split at h
  · rename_i el t l i hat hi
    split at h
    case isFalse => cases h
    case isTrue he =>
    split at h
    case h_2 => cases h
    case h_1 y S2 hop =>
    simp only [Option.some.injEq, Prod.mk.injEq] at h
    obtain ⟨rfl, rfl⟩ := h
    obtain ⟨tb, pre, mid, post, hm, q1, q2, q3, q4, _⟩ := atC_cells hs.obs hat
    have hrun := load_run (hc.ty _ _ hi) he q3 (.inr ⟨_, _, rfl⟩) q2 (tb := tb) (pre := pre) (post := post) (w := w) (by rw [← q1]; exact hb0.has (List.mem_append_right _ q4))
    obtain ⟨t', l', rfl, v', φ', oh', g1, g2, g3, g4, g5⟩ := openx_ok hop hs hb
    obtain ⟨A, cc, css, m1, _⟩ := id q3
    have hv' : sv (.mr el t) mid = v' := by
      rw [q1, ← q2, m1] at g1
      simp at g1
      rw [m1, ← g1]; rfl
    exact ⟨_, φ', [], eh, oh', _, hev, hrun, g2, ⟨[v'], rfl, by rw [hv']; rfl, g3⟩, g4, by simpa using g5⟩
  · rename_i t y i _ hat hi
    split at h
    case isFalse => cases h
    case isTrue he =>
    cases htop : t.top with
    | false => rw [htop] at h; cases h
    | true =>
    rw [htop] at h
    simp only [cond_true] at h
    split at h
    case h_2 => cases h
    case h_1 y' hy =>
    split at h
    case h_2 => cases h
    case h_1 S2 hset =>
    obtain ⟨mid, hm, oh', r1, r2, r3, r4⟩ := take_ok (C := C) (G := G) (hc.ty _ _ hi) hat he htop hy hset hs
    cases take with
    | true =>
      simp only [cond_true, Option.some.injEq, Prod.mk.injEq] at h
      obtain ⟨rfl, rfl⟩ := h
      refine ⟨_, W.φ, hm, eh, oh', _, hev, r4 w hb0, W.φ.le_refl, ⟨mid, htop, rfl, r1⟩, r2, hb.perm ?_⟩
      rw [List.append_assoc]
      exact List.Perm.append_left hv ((List.Perm.append_left eh r3).trans (List.perm_append_comm_assoc _ _ _))
    | false =>
      simp only [cond_false, Option.some.injEq, Prod.mk.injEq] at h
      obtain ⟨rfl, rfl⟩ := h
      obtain ⟨h', p1, _⟩ := coe_ok hy r1
      have := Rp.er_nil (Ty.er_er t).symm p1
      subst this
      exact ⟨_, W.φ, [], eh, oh, _, hev, r4 w hb0, W.φ.le_refl, ⟨mid, coe_top hy htop, coe_sv hy mid, p1⟩, hs, by simpa using hb⟩
  · cases h
theorem resE_ok (hc : CtxOk P G c) (hf : Fr a N e) : ∀ (ts : List Ty) (l : List ResultVar) (S : St) (ds : List D) (S1 : St) (W : Wit) (eh oh hv : List Chunk), resE c S ts l = some (ds, S1) → SRel S W e eh oh → Hb C w (hv ++ (eh ++ oh)) (Inv G W.φ) →
    ∃ vs φ' hh eh' oh', ResRun P a.tmps w l vs ∧ W.φ.le φ' ∧ DsR ⟨φ', W.adr, W.hd⟩ ds vs hh ∧ SRel S1 ⟨φ', W.adr, W.hd⟩ e eh' oh' ∧ Hb C w (hv ++ hh ++ (eh' ++ oh')) (Inv G φ')
  | [], [], S, ds, S1, W, eh, oh, hv, h, hs, hb => by
    simp only [resE, Option.some.injEq, Prod.mk.injEq] at h
    obtain ⟨rfl, rfl⟩ := h
    exact ⟨[], W.φ, [], eh, oh, .nil, W.φ.le_refl, .nil, hs, by simpa using hb⟩
  | [], _ :: _, S, ds, S1, W, eh, oh, hv, h, hs, hb => by cases h
  | _ :: _, [], S, ds, S1, W, eh, oh, hv, h, hs, hb => by cases h
  | t :: ts, .tmp s :: l, S, ds, S1, W, eh, oh, hv, h, hs, hb => by
    unfold resE at h
    split at h
    case h_2 => cases h
    case h_1 d S2 hu =>
    split at h
    case h_2 => cases h
    case h_1 ds' S3 hr =>
    simp only [Option.some.injEq, Prod.mk.injEq] at h
    obtain ⟨rfl, rfl⟩ := h
    obtain ⟨v, φ1, h1, eh1, oh1, q1, q2, q3, q4, q5⟩ := useT_ok hu hs hb
    obtain ⟨vs, φ2, h2, eh2, oh2, g1, g2, g3, g4, g5⟩ := resE_ok hc hf ts l _ _ _ _ _ _ _ hr q4 q5
    have hv' : v = a.tmps.getD s undef := (hf.ev q1).symm
    subst hv'
    exact ⟨_ :: vs, φ2, h1 ++ h2, eh2, oh2, .tmp g1, Phi.le_trans q2 g2, .cons (q3.same g2 rfl rfl) g3, g4, by simpa [List.append_assoc] using g5⟩
  | t :: ts, .cell s ty :: l, S, ds, S1, W, eh, oh, hv, h, hs, hb => by
    unfold resE at h
    split at h
    case h_2 => cases h
    case h_1 d S2 hu =>
    split at h
    case h_2 => cases h
    case h_1 ds' S3 hr =>
    simp only [Option.some.injEq, Prod.mk.injEq] at h
    obtain ⟨rfl, rfl⟩ := h
    obtain ⟨v, φ1, h1, eh1, oh1, ad, q0, q1, q2, q3, q4, q5⟩ := cellE_ok hc hf hu hs hb
    obtain ⟨vs, φ2, h2, eh2, oh2, g1, g2, g3, g4, g5⟩ := resE_ok hc hf ts l _ _ _ _ _ _ _ hr q4 q5
    exact ⟨v :: vs, φ2, h1 ++ h2, eh2, oh2, .cell q0 q1 g1, Phi.le_trans q2 g2, .cons (q3.same g2 rfl rfl) g3, g4, by simpa [List.append_assoc] using g5⟩

/-- a function's entry -/
theorem fn_ok (hm : P.follows .mixedOrders = true) (hc : CtxOk P G c) {f : FuncId} {fn : Func} {code : Code} {an : Ann} {ps : List Par} {rs : List Ty} {slots : List ResultVar} (hfn : P.funcs[f]? = some fn) (hbody : fn.body = some code) (hname : (fn.name == "runtime.NumGoroutine") = false)
    (hN : fn.ntmps = c.n) (hres : fn.results = slots.toArray) (hpl : ps.length ≤ c.n) (hpt : ∀ t, Par.val t ∈ ps → t.top = true) (hrt : ∀ t ∈ rs, t.top = true)
    {F : prodT (ps.map Par.ty) → Option (prodT (rs ++ outs ps))} (hF : ∀ z r, F z = some r → fnE c code an ps rs slots z = some r) : EntryOk P G f ⟨ps, rs, F⟩ := by
  refine ⟨GoFn.mk fn hfn hname (by rw [hbody]; rfl), hpt, fun z r hz C φ vals gs hs ha hb => ?_⟩
  have hz := hF z r hz
  have ha : ArgsR φ ps z vals gs hs := ha
  obtain ⟨adr, hd, e, eh, oh, q1, q2, q3, q4, q5, q6, q7, q8, q9, q10⟩ := enterE_ok ps 0 z vals gs hs ha
  have hvl : vals.length = ps.length := argsR_len ha
  refine calls_of_wp hfn hbody ?_
  have hf0 : Fr { tmps := vals.toArray ++ Array.replicate (fn.ntmps - vals.toArray.size) undef, defers := [] } c.n e := by
    refine ⟨?_, rfl, fun p hp => ?_, q5⟩
    · simp [hN]; omega
    · have h1 := (q4 p hp).2
      simp only [Nat.sub_zero] at h1
      have h2 := (List.getElem?_eq_some_iff.1 h1).1
      simp only [Array.getD_eq_getD_getElem?]
      rw [Array.getElem?_append_left (by simpa using h2)]
      simp [h1]
  have hb0 : Hb C C.w0 (eh ++ oh) (Inv G φ) := hb.perm q3
  have hat : At c.n C (fun w => G w ∧ Agree φ w) (enterE 0 ps z) { tmps := vals.toArray ++ Array.replicate (fn.ntmps - vals.toArray.size) undef, defers := [] } C.w0 :=
    ⟨⟨φ, adr, hd⟩, e, eh, oh, ⟨q1, q2, q6⟩, hf0, hb0.imp fun w hw => ⟨⟨hw.1, hw.2⟩, hw.2⟩⟩
  refine codeE_ok hm rfl code an _ _ _ r hz (fun w => G w ∧ Agree φ w) hc.more (fun a => ∀ t, t ∉ dsts code → a.tmps[t]? = (vals.toArray ++ Array.replicate (fn.ntmps - vals.toArray.size) undef)[t]?) (fun t ht v a' h' s hs => ?_) _ (fun x S hx a w hat ha => ?_) _ _ hat (fun _ _ => rfl)
  · rw [put_other fun e => (by subst e; exact hs ht)]; exact h' s hs
  have fin : (match resE c S rs slots with | some (ds, S1) => finE (dsts code) S1 ps rs ds | none => none) = some r →
      a.defers = [] ∧ ∃ v, (results fn a.tmps).run P w = .ok v w ∧ ∃ v' φ' h1 h2, Ending.returned v = .returned v' ∧ φ.le φ' ∧ Hb C w (h1 ++ h2) (Inv G φ') ∧ ResR φ' ((unProd (rs ++ outs ps) r).take rs.length) v' h1 ∧ ObsR φ' gs ((unProd (rs ++ outs ps) r).drop rs.length) h2 := by
    intro hx
    split at hx
    case h_2 => cases hx
    case h_1 ds S1 hu =>
    obtain ⟨W, e1, eh1, oh1, t1, t2, t3⟩ := hat
    obtain ⟨vs, φ1, hh, eh2, oh2, u1, u2, u3, u4, u5⟩ := resE_ok (G := fun w => G w ∧ Agree φ w) hc.more t2 rs slots _ _ _ _ _ _ [] hu t1 (by simpa using t3)
    obtain ⟨g, g1, g2⟩ := u4.obs.fam u4.nd
    have hInv := u5.get
    let φ2 : Phi := φ1.join φ
    have le1 : φ1.le φ2 := fun x v hx => by show (match φ1 x with | some v => some v | none => φ x) = some v; rw [hx]
    have le2 : φ.le φ2 := fun x v hx => by
      show (match φ1 x with | some v => some v | none => φ x) = some v
      cases h : φ1 x with
      | none => exact hx
      | some u =>
        have h1 := hInv.2 x u h
        have h2 := hInv.1.2 x v hx
        rw [h1] at h2
        exact h2
    obtain ⟨h1, y', p1, p2, p3, p4⟩ := finE_ok (W := ⟨φ2, W.adr, W.hd⟩) rs ds vs hh r hx (u3.mono' le1) hrt
    obtain ⟨h2, o1, o2, o3, o4⟩ := outE_ok (W := ⟨φ2, W.adr, W.hd⟩) (g := g) (fun j ob hj => by
      obtain ⟨h0, s1, s2⟩ := g1 _ (look_pair hj)
      exact ⟨h0, s1.mono le1, s2⟩) ps 0 y' p3
    have hadr : ∀ p ∈ parKeys 0 ps, W.adr p.1 = adr p.1 := fun p hp => by
      obtain ⟨⟨_, _, s1⟩, s2, s3, _⟩ := o3 p hp
      obtain ⟨v, h', _, l1, l2, _⟩ := u4.env.look s1
      obtain ⟨rfl, _⟩ := l2
      have e3 := t2.look l1
      obtain ⟨_, e40⟩ := q10 p hp
      have e4 := hf0.look e40
      rw [Array.getD_eq_getD_getElem?, ha _ s2, ← Array.getD_eq_getD_getElem?] at e3
      have e5 := e4.symm.trans e3
      simp only [Value.pointer.injEq, Option.some.injEq, Addr.mk.injEq] at e5
      exact e5.1.symm
    refine ⟨t2.defers, _, results_ok hres u1, _, φ2, h1, h2, rfl, le2, ?_, ⟨vs, p1, rfl⟩, ?_⟩
    · have hsub : Sub (([] ++ hh) ++ (eh2 ++ oh2)) (h1 ++ h2) := by
        rw [List.nil_append]
        refine Sub.app p4 (Sub.right.trans ?_)
        rw [g2]
        have hk := (keys_split u4.nd o4 (fun j hj => by
          obtain ⟨p, hp, rfl⟩ := List.mem_map.1 hj
          exact (o3 p hp).2.2.1)).flatMap_right (f := g)
        rw [List.flatMap_append] at hk
        exact (Sub.perm hk).trans (Sub.left.trans o2)
      refine (hsub.hb u5).imp fun w' hw' => ⟨hw'.1.1, fun x v hx => ?_⟩
      have hx : (match φ1 x with | some v => some v | none => φ x) = some v := hx
      cases h : φ1 x with
      | none => rw [h] at hx; exact hw'.1.2 x v hx
      | some u => rw [h] at hx; exact hw'.2 x v (h.trans hx)
    · rw [p2, q9]
      have : (parKeys 0 ps).map (fun p => (adr p.1, p.2)) = (parKeys 0 ps).map (fun p => (W.adr p.1, p.2)) := List.map_congr_left fun p hp => by rw [hadr p hp]
      rw [this]
      exact o1
  cases x with
  | nrm => exact fin hx
  | ret => exact fin hx
  | ext i => cases hx
/-- a function that answers nil, or a pointer into an array of the object that is handed to it -/
theorem ip_ok (hm : P.follows .mixedOrders = true) (hc : CtxOk P G c) {f : FuncId} {fn : Func} {code : Code} {an : Ann} {tid : Nat} {t : Ty} {p0 p : List Dir} {o sz slot : Nat} (hfn : P.funcs[f]? = some fn) (hbody : fn.body = some code) (hname : (fn.name == "runtime.NumGoroutine") = false)
    (hN : fn.ntmps = c.n) (hres : fn.results = [ResultVar.tmp slot].toArray) (hpl : 1 ≤ c.n) (hfl : t.flat = true)
    {F : t.den → Option (Option Nat)} (hF : ∀ z m, F z = some m → ipE c code an tid t p0 p o sz slot z = some (m, z)) : IpOk P G f ⟨tid, t, p0, p, o, sz, F⟩ := by
  refine ⟨GoFn.mk fn hfn hname (by rw [hbody]; rfl), hfl, fun z m hz C φ g0 cs hrp hb => ?_⟩
  have hz := hF z m hz
  have hrp : Rp φ t z cs [] := hrp
  have hcs := (flat_ok hfl hrp).1
  have ha : ArgsR φ [.obj tid t t p0] z [Value.pointer (some ⟨g0, offP t p0, none⟩)] [(g0, tid)] [blk g0 tid cs] := ArgsR.obj (r := []) (h := []) (hs := []) hrp .nil
  obtain ⟨adr, hd, e, eh, oh, q1, q2, q3, q4, q5, q6, q7, q8, q9, q10⟩ := enterE_ok [.obj tid t t p0] 0 z _ _ _ ha
  have hadr0 : adr 0 = g0 := by
    have h9 : [(g0, tid)] = [(adr 0, tid)] := q9
    injection h9 with h9 _
    injection h9 with h9 _
    exact h9.symm
  refine calls_of_wp hfn hbody ?_
  have hf0 : Fr { tmps := [Value.pointer (some ⟨g0, offP t p0, none⟩)].toArray ++ Array.replicate (fn.ntmps - ([Value.pointer (some ⟨g0, offP t p0, none⟩)].toArray).size) undef, defers := [] } c.n e := by
    refine ⟨?_, rfl, fun p hp => ?_, q5⟩
    · simp [hN]; omega
    · have h1 := (q4 p hp).2
      simp only [Nat.sub_zero] at h1
      have h2 := (List.getElem?_eq_some_iff.1 h1).1
      simp only [Array.getD_eq_getD_getElem?]
      rw [Array.getElem?_append_left (by simpa using h2)]
      simp [h1]
  have hb0 : Hb C C.w0 (eh ++ oh) (Inv G φ) := hb.perm q3
  have hat : At c.n C (fun w => G w ∧ Agree φ w) (enterE 0 [.obj tid t t p0] z) { tmps := [Value.pointer (some ⟨g0, offP t p0, none⟩)].toArray ++ Array.replicate (fn.ntmps - ([Value.pointer (some ⟨g0, offP t p0, none⟩)].toArray).size) undef, defers := [] } C.w0 :=
    ⟨⟨φ, adr, hd⟩, e, eh, oh, ⟨q1, q2, q6⟩, hf0, hb0.imp fun w hw => ⟨⟨hw.1, hw.2⟩, hw.2⟩⟩
  refine codeE_ok hm rfl code an _ _ _ _ hz (fun w => G w ∧ Agree φ w) hc.more (fun a => ∀ t, t ∉ dsts code → a.tmps[t]? = ([Value.pointer (some ⟨g0, offP _ p0, none⟩)].toArray ++ Array.replicate (fn.ntmps - ([Value.pointer (some ⟨g0, offP _ p0, none⟩)].toArray).size) undef)[t]?) (fun t ht v a' h' s hs => ?_) _ (fun x S hx a w hat ha => ?_) _ _ hat (fun _ _ => rfl)
  · rw [put_other fun e => (by subst e; exact hs ht)]; exact h' s hs
  have fin : (match ipD p o sz (S.get (.tmp slot)), outE (dsts code) S 0 [.obj tid t t p0] with | some m, some y => some (m, (y : t.den)) | _, _ => none) = some (m, z) →
      a.defers = [] ∧ ∃ v, (results fn a.tmps).run P w = .ok v w ∧ (Ending.returned v = .returned (elV g0 o sz 0 m) ∧ Hb C w [blk g0 tid cs] (Inv G φ)) := by
    intro hx
    split at hx
    case h_2 => cases hx
    case h_1 m' y' hip hout =>
    simp only [Option.some.injEq, Prod.mk.injEq] at hx
    obtain ⟨rfl, rfl⟩ := hx
    obtain ⟨W, e1, eh1, oh1, t1, t2, t3⟩ := hat
    have hne : S.get (.tmp slot) ≠ .und := fun e => by rw [e] at hip; cases hip
    obtain ⟨v, u1, u2⟩ := get_nil t1.env rfl hne
    obtain ⟨g, g1, g2⟩ := t1.obs.fam t1.nd
    obtain ⟨h2, o1, o2, o3, o4⟩ := outE_ok (g := g) (fun j ob hj => by
      obtain ⟨h0, s1, s2⟩ := g1 _ (look_pair hj)
      exact ⟨h0, s1, s2⟩) [.obj tid t t p0] 0 z hout
    have hadr : W.adr 0 = g0 := by
      obtain ⟨⟨_, _, s1⟩, s2, s3, _⟩ := o3 (0, tid) (by simp [parKeys])
      obtain ⟨v, h', _, l1, l2, _⟩ := t1.env.look s1
      obtain ⟨rfl, _⟩ := l2
      have e3 := t2.look l1
      obtain ⟨_, e40⟩ := q10 (0, tid) (by simp [parKeys])
      have e4 := hf0.look e40
      rw [Array.getD_eq_getD_getElem?, ha _ s2, ← Array.getD_eq_getD_getElem?] at e3
      have e5 := e4.symm.trans e3
      simp only [Value.pointer.injEq, Option.some.injEq, Addr.mk.injEq] at e5
      rw [← e5.1]; exact hadr0
    have hv : v = elV g0 o sz 0 m := by
      generalize S.get (.tmp slot) = d at hip u2
      unfold ipD at hip
      split at hip
      · injection hip with hip
        subst hip
        exact u2.1
      · rename_i j p' o' m'' sz'
        cases hbb : (Nat.beq j 0 && Nat.beq o o' && Nat.beq sz sz' && dirsB p p') with
        | false => rw [hbb] at hip; cases hip
        | true =>
          rw [hbb] at hip
          injection hip with hip
          simp only [Bool.and_eq_true] at hbb
          have b1 := Nat.eq_of_beq_eq_true hbb.1.1.1
          have b2 := Nat.eq_of_beq_eq_true hbb.1.1.2
          have b3 := Nat.eq_of_beq_eq_true hbb.1.2
          subst hip b1 b2 b3
          rw [← hadr]
          exact u2.1
      · cases hip
    have o1' : ObsR W.φ [(W.adr 0, tid)] [⟨t, z⟩] h2 := o1
    rw [hadr] at o1'
    cases o1' with
    | @cons _ _ _ _ cs2 h hs2 _ _ r1 r2 =>
    cases r2
    obtain ⟨c1, c2⟩ := flat_ok hfl r1
    subst c2
    have hcc : cs2 = cs := by rw [c1, hcs]
    subst hcc
    refine ⟨t2.defers, _, results_ok hres (.tmp .nil), ?_, ?_⟩
    · have h9 : a.tmps.getD slot undef = v := t2.ev u1
      show Ending.returned (a.tmps.getD slot undef) = _
      rw [h9, hv]
    · have hsub : Sub (eh1 ++ oh1) [blk g0 tid cs2] := by
        refine Sub.right.trans ?_
        rw [g2]
        have hk := (keys_split t1.nd o4 (fun j hj => by
          obtain ⟨p, hp, rfl⟩ := List.mem_map.1 hj
          exact (o3 p hp).2.2.1)).flatMap_right (f := g)
        rw [List.flatMap_append] at hk
        exact (Sub.perm hk).trans (Sub.left.trans o2)
      exact (hsub.hb t3).imp fun w' hw' => hw'.1
  cases x with
  | nrm => exact fin hx
  | ret => exact fin hx
  | ext i => cases hx
end
end Go.Lf
/-
  A table of types, tried.
-/
namespace Go.Lf
open Go Go.Eng

/-- the zero of a type, cell by cell -/
def eqz : Value → Value → Bool
  | .int k a, .int k' b => decide (k = k') && decide (a = b)
  | .bool a, .bool b => (a && b) || (!a && !b)
  | .string a, .string b => (match a.data.toList with | [] => true | _ => false) && (match b.data.toList with | [] => true | _ => false)
  | .slice none 0 0, .slice none 0 0 => true
  | .pointer none, .pointer none => true
  | .nilIface, .nilIface => true
  | _, _ => false
def eqzs : List Value → List Value → Bool
  | [], [] => true
  | a :: l, b :: m => eqz a b && eqzs l m
  | _, _ => false
theorem empty_bytes {a : ByteArray} (h : (match a.data.toList with | [] => true | _ => false) = true) : a = ⟨#[]⟩ := by
  split at h
  · rename_i he
    cases a with
    | mk d =>
      congr 1
      exact Array.toList_inj.1 (by rw [he])
  · cases h
theorem eqz_ok {a b : Value} (h : eqz a b = true) : a = b := by
  unfold eqz at h
  split at h
  · simp only [Bool.and_eq_true, decide_eq_true_eq] at h
    rw [h.1, h.2]
  · rename_i a b
    cases a <;> cases b <;> first | rfl | cases h
  · simp only [Bool.and_eq_true] at h
    rw [empty_bytes h.1, empty_bytes h.2]
  · rfl
  · rfl
  · rfl
  · cases h
theorem eqzs_ok : ∀ {a b : List Value}, eqzs a b = true → a = b
  | [], [], _ => rfl
  | a :: l, b :: m, h => by
    unfold eqzs at h
    simp only [Bool.and_eq_true] at h
    rw [eqz_ok h.1, eqzs_ok h.2]
  | [], _ :: _, h => by cases h
  | _ :: _, [], h => by cases h
def tZB (P : Program) (t : Nat) (z : List Value) : Bool := match P.info? t with
  | some i => match i.zero with
    | some v => eqzs v.cells.toList z
    | none => false
  | none => false
theorem tZB_ok {P : Program} {t : Nat} {z : List Value} (h : tZB P t z = true) : tZ P t z := by
  unfold tZB at h
  split at h
  case h_2 => cases h
  case h_1 i hi =>
  split at h
  case h_2 => cases h
  case h_1 v hv =>
  exact ⟨i, v, hi, hv, by rw [← eqzs_ok h]⟩
def appB (P : Program) (t el size bytes : Nat) : Bool := (match P.underlying t with | some (.slice e') => Nat.beq e' el | _ => false) && (match P.info? el with
  | some i => (match i.zero with | some z => Nat.beq i.size size && Nat.beq i.bytes bytes && Nat.beq z.cells.size size && Nat.blt 0 size | none => false)
  | none => false)
theorem appB_ok {P : Program} {t el size bytes : Nat} (h : appB P t el size bytes = true) : AppTy P t el size bytes := by
  unfold appB at h
  simp only [Bool.and_eq_true] at h
  obtain ⟨h1, h2⟩ := h
  split at h1
  case h_2 => cases h1
  case h_1 e' hu =>
  have h1 := Nat.eq_of_beq_eq_true h1
  subst h1
  split at h2
  case h_2 => cases h2
  case h_1 i hi =>
  split at h2
  case h_2 => cases h2
  case h_1 z hz =>
  simp only [Bool.and_eq_true] at h2
  obtain ⟨⟨⟨g1, g2⟩, g3⟩, g4⟩ := h2
  exact ⟨i, z, hu, hi, hz, Nat.eq_of_beq_eq_true g1, Nat.eq_of_beq_eq_true g2, Nat.eq_of_beq_eq_true g3, by simpa [Nat.blt_eq] using g4⟩
def allB (p : Nat → Bool) : Nat → Bool
  | 0 => true
  | n + 1 => allB p n && p n
theorem allB_ok {p : Nat → Bool} : ∀ {n : Nat}, allB p n = true → ∀ i, i < n → p i = true
  | 0, _, i, hi => by omega
  | n + 1, h, i, hi => by
    unfold allB at h
    simp only [Bool.and_eq_true] at h
    rcases Nat.lt_succ_iff_lt_or_eq.1 hi with h2 | rfl
    · exact allB_ok h.1 i h2
    · exact h.2
def someB {α : Type} : Option α → Bool | some _ => true | none => false
def tyB (P : Program) (id : Nat) (i : TyI) : Bool :=
  decide (i.ty = i.ty.er) && tSz P id i.ty.size && someB (P.underlying id) && (bif someB (zero i.ty) then tZB P id (zcells i.ty) else true) && match i.ty with
    | .int k => tSc P id && tInt P id k
    | .bool => tSc P id && tBo P id
    | .str => tSc P id && tStr P id
    | .sl t => tSc P id && tSl P id i.el t.size && appB P id i.el t.size i.sz && (bif decide (t = .int .u8) then tByt P id i.el else true) && decide (t = t.er) && Nat.blt 0 i.sz && (bif someB (zero t) then tZB P i.el (zcells t) else true)
    | .st t => tAg P id t.size && match i.sz with
      | 0 => allB (fun f => tFo P id f (offP t (fpath t f)) && match getTy t (fpath t f) with | some s => tFz P id f s.size | none => true) (nf t) && match P.underlying id with | some (.struct fs) => tStruct P fs | _ => false
      | n + 1 => match arEl t, P.underlying id with
        | some a, some (.array m e) => decide (t = arT a (n + 1)) && Nat.beq m (n + 1) && Nat.beq e i.el && tSz P i.el a.size && (match a with | .st b => tAg P i.el b.size | .int k => tSc P i.el && tInt P i.el k | _ => tSc P i.el)
        | _, _ => false
    | .eb _ _ => tSc P id && (tIf P id && tZi P id)
    | .ptr _ => tSc P id && (tPt P id && tZp P id)
    | _ => false
theorem someB_ok {α : Type} {x : Option α} (h : someB x = true) : ∃ y, x = some y := by
  cases x with
  | none => cases h
  | some y => exact ⟨y, rfl⟩
theorem someB_is {α : Type} {x : Option α} (h : x.isSome = true) : someB x = true := by
  cases x with
  | none => cases h
  | some y => rfl
theorem tyB_ok {P : Program} {id : Nat} {i : TyI} (h : tyB P id i = true) : TyOk P id i := by
  obtain ⟨ty, el, sz⟩ := i
  unfold tyB at h
  simp only [Bool.and_eq_true, decide_eq_true_eq] at h
  obtain ⟨⟨⟨⟨h1, h2⟩, h3⟩, h4⟩, h5⟩ := h
  have hz : (zero ty).isSome = true → tZ P id (zcells ty) := fun hs => by
    rw [someB_is hs] at h4
    exact tZB_ok h4
  have hu := someB_ok h3
  cases ty with
  | int k =>
    simp only [Bool.and_eq_true] at h5
    exact ⟨h1, h2, fun _ => h5.1, fun k' e => (by cases e; exact h5.2), fun e => (by cases e), fun e => (by cases e), fun t e => (by cases e), fun t e => (by cases e), fun t e => (by cases e), fun t e => (by cases e), fun _ _ e => (by cases e), fun _ e => (by cases e), hu, hz⟩
  | bool =>
    simp only [Bool.and_eq_true] at h5
    exact ⟨h1, h2, fun _ => h5.1, fun k' e => (by cases e), fun e => h5.2, fun e => (by cases e), fun t e => (by cases e), fun t e => (by cases e), fun t e => (by cases e), fun t e => (by cases e), fun _ _ e => (by cases e), fun _ e => (by cases e), hu, hz⟩
  | str =>
    simp only [Bool.and_eq_true] at h5
    exact ⟨h1, h2, fun _ => h5.1, fun k' e => (by cases e), fun e => (by cases e), fun e => h5.2, fun t e => (by cases e), fun t e => (by cases e), fun t e => (by cases e), fun t e => (by cases e), fun _ _ e => (by cases e), fun _ e => (by cases e), hu, hz⟩
  | eb te t =>
    simp only [Bool.and_eq_true] at h5
    exact ⟨h1, h2, fun _ => h5.1, fun k' e => (by cases e), fun e => (by cases e), fun e => (by cases e), fun t e => (by cases e), fun t e => (by cases e), fun t e => (by cases e), fun t e => (by cases e), fun _ _ e => by simpa using h5.2, fun _ e => (by cases e), hu, hz⟩
  | ptr t =>
    simp only [Bool.and_eq_true] at h5
    exact ⟨h1, h2, fun _ => h5.1, fun k' e => (by cases e), fun e => (by cases e), fun e => (by cases e), fun t e => (by cases e), fun t e => (by cases e), fun t e => (by cases e), fun t e => (by cases e), fun _ _ e => (by cases e), fun _ e => by simpa using h5.2, hu, hz⟩
  | sl t =>
    simp only [Bool.and_eq_true, decide_eq_true_eq] at h5
    obtain ⟨⟨⟨⟨⟨⟨g1, g2⟩, g3⟩, g4⟩, g5⟩, g6⟩, g7⟩ := h5
    refine ⟨h1, h2, fun _ => g1, fun k' e => (by cases e), fun e => (by cases e), fun e => (by cases e), fun t' e => ?_, fun t e => (by cases e), fun t e => (by cases e), fun t e => (by cases e), fun _ _ e => (by cases e), fun _ e => (by cases e), hu, hz⟩
    cases e
    refine ⟨g2, appB_ok g3, fun ht => ?_, g5, by simpa [Nat.blt_eq] using g6, fun hs => ?_⟩
    · rw [decide_eq_true ht] at g4; exact g4
    · rw [someB_is hs] at g7
      exact tZB_ok g7
  | st t =>
    simp only [Bool.and_eq_true] at h5
    obtain ⟨g1, g3⟩ := h5
    refine ⟨h1, h2, fun hn => absurd rfl (hn t), fun k' e => (by cases e), fun e => (by cases e), fun e => (by cases e), fun t' e => (by cases e), fun t' e => (by cases e; exact g1), fun t' e hz => ?_, fun t' e hz => ?_, fun _ _ e => (by cases e), fun _ e => (by cases e), hu, hz⟩
    · cases e
      have hz : sz = 0 := hz
      subst hz
      simp only [Bool.and_eq_true] at g3
      obtain ⟨g2, g3⟩ := g3
      have g2 := allB_ok g2
      refine ⟨fun f hf => ?_, ?_⟩
      · have := g2 f hf
        simp only [Bool.and_eq_true] at this
        exact this.1
      · split at g3
        · rename_i fs hfs
          refine ⟨fs, hfs, g3, fun f s hf hs => ?_⟩
          have := g2 f hf
          simp only [Bool.and_eq_true, hs] at this
          exact this.2
        · cases g3
    · cases e
      have hz : 0 < sz := hz
      cases sz with
      | zero => omega
      | succ n =>
      simp only at g3
      split at g3
      case h_2 => cases g3
      case h_1 a m e0 ha hu2 =>
      simp only [Bool.and_eq_true, decide_eq_true_eq] at g3
      obtain ⟨⟨⟨⟨k1, k2⟩, k3⟩, k4⟩, k5⟩ := g3
      have k2 := Nat.eq_of_beq_eq_true k2
      have k3 := Nat.eq_of_beq_eq_true k3
      subst k2 k3
      refine ⟨a, k1, hu2, k4, fun hn => ?_, fun b hb => ?_, fun k hk => ?_⟩
      · split at k5
        · exact absurd rfl (hn _)
        · simp only [Bool.and_eq_true] at k5
          exact k5.1
        · exact k5
      · subst hb
        exact k5
      · subst hk
        simp only [Bool.and_eq_true] at k5
        exact k5.2
  | _ => cases h5

def tysB (P : Program) : List (Nat × TyI) → Bool
  | [] => true
  | (id, i) :: r => tyB P id i && tysB P r
theorem tysB_ok {P : Program} : ∀ {l : List (Nat × TyI)}, tysB P l = true → ∀ id i, look l id = some i → TyOk P id i
  | [], _, id, i, h => by cases h
  | (id', i') :: r, hb, id, i, h => by
    unfold tysB at hb
    simp only [Bool.and_eq_true] at hb
    rw [look_cons] at h
    split at h
    · rename_i he
      simp only [Option.some.injEq] at h
      subst he h
      exact tyB_ok hb.1
    · exact tysB_ok hb.2 id i h

/-- what is known of functions, one by one -/
inductive FnsOk (P : Program) (G : World → Prop) : List (Nat × Entry) → Prop
  | nil : FnsOk P G []
  | cons {f : Nat} {e : Entry} {l : List (Nat × Entry)} : EntryOk P G f e → FnsOk P G l → FnsOk P G ((f, e) :: l)
theorem FnsOk.look {P : Program} {G : World → Prop} {l : List (Nat × Entry)} (h : FnsOk P G l) : ∀ f e, Lf.look l f = some e → EntryOk P G f e := by
  induction h with
  | nil => intro f e h; cases h
  | cons h1 _ ih =>
    intro f e h
    rw [look_cons] at h
    split at h
    · rename_i he
      simp only [Option.some.injEq] at h
      subst he h
      exact h1
    · exact ih f e h
inductive IpsOk (P : Program) (G : World → Prop) : List (Nat × Ip) → Prop
  | nil : IpsOk P G []
  | cons {f : Nat} {e : Ip} {l : List (Nat × Ip)} : IpOk P G f e → IpsOk P G l → IpsOk P G ((f, e) :: l)
theorem IpsOk.look {P : Program} {G : World → Prop} {l : List (Nat × Ip)} (h : IpsOk P G l) : ∀ f e, Lf.look l f = some e → IpOk P G f e := by
  induction h with
  | nil => intro f e h; cases h
  | cons h1 _ ih =>
    intro f e h
    rw [look_cons] at h
    split at h
    · rename_i he
      simp only [Option.some.injEq] at h
      subst he h
      exact h1
    · exact ih f e h
end Go.Lf
/-
  Functions that call themselves.
-/
namespace Go.Lf
open Go Go.Eng

open Classical in
/-- an answer that some number of rounds gives -/
noncomputable def supC {α : Type} (g : Nat → Option α) : Option α := if h : ∃ k n, g n = some k then some (Classical.choose h) else none
theorem supC_some {α : Type} {g : Nat → Option α} {r : α} (h : supC g = some r) : ∃ n, g n = some r := by
  unfold supC at h
  split at h
  · rename_i he
    simp only [Option.some.injEq] at h
    rw [← h]
    exact Classical.choose_spec he
  · cases h
theorem supC_of {α : Type} {g : Nat → Option α} {r : α} {n : Nat} (h : g n = some r) (hu : ∀ m s, g m = some s → s = r) : supC g = some r := by
  unfold supC
  have he : ∃ k n, g n = some k := ⟨r, n, h⟩
  rw [dif_pos he]
  obtain ⟨m, hm⟩ := Classical.choose_spec he
  rw [hu m _ hm]
theorem rec_ok {P : Program} {G : World → Prop} {f : Nat} {ps : List Par} {rs : List Ty} {N : Nat → prodT (ps.map Par.ty) → Option (prodT (rs ++ outs ps))} (fn : Func) (hfn : P.funcs[f]? = some fn) (hname : (fn.name == "runtime.NumGoroutine") = false) (hb : fn.body.isNone = false) (hpt : ∀ t, Par.val t ∈ ps → t.top = true) (h0 : ∀ z, N 0 z = none)
    (hs : ∀ n, EntryOk P G f ⟨ps, rs, N n⟩ → EntryOk P G f ⟨ps, rs, N (n + 1)⟩) : EntryOk P G f ⟨ps, rs, fun z => supC fun n => N n z⟩ := by
  have all : ∀ n, EntryOk P G f ⟨ps, rs, N n⟩ := fun n => by
    induction n with
    | zero => exact ⟨GoFn.mk fn hfn hname hb, hpt, fun z r hz => by
        have hz : N 0 z = some r := hz
        rw [h0] at hz; cases hz⟩
    | succ n ih => exact hs n ih
  refine ⟨GoFn.mk fn hfn hname hb, hpt, fun z r hz => ?_⟩
  obtain ⟨n, hn⟩ := supC_some (show supC (fun n => N n z) = some r from hz)
  exact (all n).ok z r hn
theorem FnsOk.con {P : Program} {G : World → Prop} {p : Nat × Entry} {l : List (Nat × Entry)} (h : EntryOk P G p.1 p.2) (hl : FnsOk P G l) : FnsOk P G (p :: l) := .cons h hl
theorem IpsOk.con {P : Program} {G : World → Prop} {p : Nat × Ip} {l : List (Nat × Ip)} (h : IpOk P G p.1 p.2) (hl : IpsOk P G l) : IpsOk P G (p :: l) := .cons h hl
/-- the object comes back as it was -/
def Same {β : Type} (z : β) (x : Option (Option Nat × β)) : Prop := x = (x.map (·.1)).map fun m => (m, z)
theorem Same.none {β : Type} {z : β} : Same z (Option.none : Option (Option Nat × β)) := rfl
theorem Same.some {β : Type} {z : β} {m : Option Nat} : Same z (Option.some (m, z)) := rfl
theorem Same.cond {β : Type} {z : β} (b : Bool) {x y : Option (Option Nat × β)} (hx : Same z x) (hy : Same z y) : Same z (bif b then x else y) := by cases b <;> assumption
theorem Same.bind {α β : Type} {z : β} (x : Option α) {f : α → Option (Option Nat × β)} (h : ∀ a, Same z (f a)) : Same z (x.bind f) := by
  cases x with
  | none => rfl
  | some a => exact h a
theorem Same.get {β : Type} {z : β} {x : Option (Option Nat × β)} (h : Same z x) {m : Option Nat} (hm : x.map (·.1) = Option.some m) : x = Option.some (m, z) := by
  rw [h, hm]; rfl
end Go.Lf
/-
  With a bound on every loop: what is reckoned so, is so.
-/
namespace Go.Lf
open Go

def Le {α : Type} (x y : Option α) : Prop := ∀ r, x = some r → y = some r
def onSum {α β γ : Type} (d : α ⊕ β) (f : α → γ) (g : β → γ) : γ := match d with
  | .inl a => f a
  | .inr b => g b
noncomputable def loopF (n : Nat) {σ κ : Type} (B : σ → Option (σ ⊕ κ)) (z : σ) : Option κ := iter B n z
section
variable {α β γ σ κ : Type}
theorem Le.refl {x : Option α} : Le x x := fun _ h => h
theorem Le.trans {x y z : Option α} (h : Le x y) (h' : Le y z) : Le x z := fun r hr => h' r (h r hr)
theorem Le.bind {x y : Option α} {f g : α → Option β} (h : Le x y) (hf : ∀ a, Le (f a) (g a)) : Le (x.bind f) (y.bind g) := fun r hr => by
  obtain ⟨a, h1, h2⟩ := Option.bind_eq_some_iff.1 hr
  exact Option.bind_eq_some_iff.2 ⟨a, h a h1, hf a r h2⟩
theorem Le.cond {b : Bool} {x y x' y' : Option α} (h : Le x x') (h' : Le y y') : Le (cond b x y) (cond b x' y') := by cases b <;> assumption
theorem Le.onSum {d : α ⊕ β} {f f' : α → Option γ} {g g' : β → Option γ} (h : ∀ a, Le (f a) (f' a)) (h' : ∀ a, Le (g a) (g' a)) : Le (onSum d f g) (onSum d f' g') := by
  cases d
  · exact h _
  · exact h' _
theorem iter_le {B B' : σ → Option (σ ⊕ κ)} (h : ∀ z, Le (B z) (B' z)) : ∀ (n m : Nat), n ≤ m → ∀ z, Le (iter B n z) (iter B' m z)
  | 0, _, _, _ => fun r hr => by cases hr
  | n + 1, 0, hm, _ => by omega
  | n + 1, m + 1, hm, z => by
    unfold iter
    refine Le.bind (h z) fun a => ?_
    cases a with
    | inl z' => exact iter_le h n m (by omega) z'
    | inr k => exact Le.refl
theorem loopC_some {B : σ → Option (σ ⊕ κ)} {z : σ} {k : κ} (h : loopC B z = some k) : ∃ n, iter B n z = some k := by
  unfold loopC at h
  split at h
  · rename_i he
    simp only [Option.some.injEq] at h
    rw [← h]
    exact Classical.choose_spec he
  · cases h
theorem loopC_of {B : σ → Option (σ ⊕ κ)} {z : σ} {k : κ} {n : Nat} (h : iter B n z = some k) : loopC B z = some k := by
  unfold loopC
  have he : ∃ k n, iter B n z = some k := ⟨k, n, h⟩
  rw [dif_pos he]
  obtain ⟨m, hm⟩ := Classical.choose_spec he
  have h1 := iter_le (fun z => Le.refl (x := B z)) m (max m n) (Nat.le_max_left _ _) z _ hm
  have h2 := iter_le (fun z => Le.refl (x := B z)) n (max m n) (Nat.le_max_right _ _) z _ h
  rw [h1] at h2
  exact h2
theorem Le.loop {n : Nat} {B B' : σ → Option (σ ⊕ κ)} {z : σ} (h : ∀ z, Le (B z) (B' z)) : Le (loopF n B z) (loopC B' z) := fun _ hr => loopC_of (iter_le h n n (Nat.le_refl _) z _ hr)
theorem Le.loopC {B B' : σ → Option (σ ⊕ κ)} {z : σ} (h : ∀ z, Le (B z) (B' z)) : Le (loopC B z) (loopC B' z) := fun _ hr => by
  obtain ⟨n, hn⟩ := loopC_some hr
  exact loopC_of (iter_le h n n (Nat.le_refl _) z _ hn)
/-- a loop, one round -/
theorem loopC_step {B : σ → Option (σ ⊕ κ)} {z : σ} : loopC B z = (B z).bind fun | .inl z' => loopC B z' | .inr k => some k := by
  have h1 : ∀ r, loopC B z = some r → ((B z).bind fun | .inl z' => loopC B z' | .inr k => some k) = some r := fun r hr => by
    obtain ⟨n, hn⟩ := loopC_some hr
    cases n with
    | zero => cases hn
    | succ n =>
      unfold iter at hn
      obtain ⟨a, h1, h2⟩ := Option.bind_eq_some_iff.1 hn
      refine Option.bind_eq_some_iff.2 ⟨a, h1, ?_⟩
      cases a with
      | inl z' => exact loopC_of h2
      | inr k => exact h2
  have h2 : ∀ r, ((B z).bind fun | .inl z' => loopC B z' | .inr k => some k) = some r → loopC B z = some r := fun r hr => by
    obtain ⟨a, h1, h2⟩ := Option.bind_eq_some_iff.1 hr
    cases a with
    | inl z' =>
      obtain ⟨n, hn⟩ := loopC_some h2
      exact loopC_of (n := n + 1) (by unfold iter; rw [h1]; exact hn)
    | inr k => exact loopC_of (n := 1) (by unfold iter; rw [h1]; exact h2)
  cases h : loopC B z with
  | some r => exact (h1 r h).symm
  | none =>
    cases h' : (B z).bind fun | .inl z' => loopC B z' | .inr k => some k with
    | none => rfl
    | some r => rw [h2 r h'] at h; cases h
/-- rounds of a function that calls itself -/
theorem sup_le {g : Nat → Option α} (hm : ∀ n, Le (g n) (g (n + 1))) (n : Nat) : Le (g n) (supC g) := fun r hr => by
  have up : ∀ k m, Le (g m) (g (m + k)) := fun k => by
    induction k with
    | zero => exact fun m => Le.refl
    | succ k ih => exact fun m => (ih m).trans (hm _)
  refine supC_of hr fun m s hs => ?_
  have h1 := up m n r hr
  have h2 := up n m s hs
  rw [Nat.add_comm] at h2
  rw [h1] at h2
  injection h2 with h2
  exact h2.symm
end
end Go.Lf
/- The shelf's contracts, laid at this program by the kit's tools. -/
namespace Go.Proofs
open Go.Shelf
def Tryd.lays170_ren : Go.Shelf.Ren := ⟨fun | 170 => 77 | n => n, fun | 70 => 159 | 3 => 3 | 0 => 0 | 72 => 161 | 37 => 61 | 5 => 5 | n => n, fun | n => n⟩
theorem Tryd.lays170 : Go.Proofs.Lays.n170 Tryd.prog Tryd.lays170_ren := {
  mixed := by kernel_rfl
  f170 := Tryd.func77.trans (congrArg some (by kernel_rfl))
  t0 := Tryd.underlying0
  a0 := Tryd.isAgg0
  z0 := Tryd.sizeOf0
  v0 := Tryd.zeroValue0
  t3 := Tryd.underlying3
  a3 := Tryd.isAgg3
  z3 := Tryd.sizeOf3
  v3 := Tryd.zeroValue3
  t37 := Tryd.underlying61
  a37 := Tryd.isAgg61
  z37 := Tryd.sizeOf61
  v37 := Tryd.zeroValue61
  t70 := Tryd.underlying159
  a70 := Tryd.isAgg159
  z70 := Tryd.sizeOf159
  v70 := Tryd.zeroValue159
  t72 := Tryd.underlying161
  a72 := Tryd.isAgg161
  z72 := Tryd.sizeOf161
  v72 := Tryd.zeroValue161 }
def Tryd.lays169_ren : Go.Shelf.Ren := ⟨fun | 169 => 81 | n => n, fun | 70 => 159 | 9 => 9 | 0 => 0 | 72 => 161 | 37 => 61 | 127 => 167 | 3 => 3 | 5 => 5 | n => n, fun | n => n⟩
theorem Tryd.lays169 : Go.Proofs.Lays.n169 Tryd.prog Tryd.lays169_ren := {
  mixed := by kernel_rfl
  f169 := Tryd.func81.trans (congrArg some (by kernel_rfl))
  t0 := Tryd.underlying0
  a0 := Tryd.isAgg0
  z0 := Tryd.sizeOf0
  v0 := Tryd.zeroValue0
  t3 := Tryd.underlying3
  a3 := Tryd.isAgg3
  z3 := Tryd.sizeOf3
  v3 := Tryd.zeroValue3
  t9 := Tryd.underlying9
  a9 := Tryd.isAgg9
  z9 := Tryd.sizeOf9
  v9 := Tryd.zeroValue9
  t37 := Tryd.underlying61
  a37 := Tryd.isAgg61
  z37 := Tryd.sizeOf61
  v37 := Tryd.zeroValue61
  t70 := Tryd.underlying159
  a70 := Tryd.isAgg159
  z70 := Tryd.sizeOf159
  v70 := Tryd.zeroValue159
  t72 := Tryd.underlying161
  a72 := Tryd.isAgg161
  z72 := Tryd.sizeOf161
  v72 := Tryd.zeroValue161
  t127 := Tryd.underlying167
  a127 := Tryd.isAgg167
  z127 := Tryd.sizeOf167
  v127 := Tryd.zeroValue167 }
theorem Tryd.Builder_Extra_169 : Builder.Extra Tryd.prog Tryd.lays169_ren := {
  sizeBuilder := by kernel_rfl
  liesBuilder := by kernel_rfl
  t5 := Tryd.underlying5
  a5 := Tryd.isAgg5
  z5 := Tryd.sizeOf5
  v5 := Tryd.zeroValue5
  infoByte := by kernel_rfl
  cellsByte := by kernel_rfl
  sizeByte := by kernel_rfl
  neB5 := by decide }
open Go.RowKit in
/-- (*strings.Builder).Len: "Len returns the number of accumulated bytes; b.Len() == len(b.String()).": the world is as it was. (THE FORM '_f': 'Lib.IsBuilderF'.) (LAID: no walk: one application.) -/
theorem Tryd.Builder_Len_f (B b : Nat) (bs : List Value) (w : World) (h : Lib.IsBuilderF 161 5 B b bs w) :
    Calls Tryd.prog 77 #[.pointer (some ⟨b, 0, none⟩)] w fun e w' => e = .returned (.int .i64 bs.length) ∧ w' = w := Any.Builder_Len_f Tryd.lays170 B b bs w h
open Go.RowKit in
/-- (*strings.Builder).String: "String returns the accumulated string.": WHATEVER THE BUILDER HOLDS; THE FORM '_k': OVER 'Lib.IsBuilderF' (a builder that 'String()' may have read), AND WITH THE FRAME THAT REACHES ABOVE THE BUILDER: 'Lib.OthersKept': every block that is not b and is no row of uint8's stands as it stood: the iterator of a range among them. (LAID: no walk: one application.) -/
theorem Tryd.Builder_String_any_k (B b : Nat) (l : List UInt8) (w : World) (h : Lib.IsBuilderF 161 5 B b (Lib.byteCells l) w) (hBw : B ≤ w.heap.size) :
    Calls Tryd.prog 81 #[.pointer (some ⟨b, 0, none⟩)] w fun e w' => e = .returned (.string ⟨l.toArray⟩) ∧ (Lib.IsBuilderF 161 5 B b (Lib.byteCells l) w' ∧ Below B w w' ∧ Lib.OthersKept 5 (some b) w w') := Any.Builder_String_any_k Tryd.lays169 Tryd.Builder_Extra_169 B b l w h hBw
def Tryd.laysM171_ren : Go.Shelf.Ren := ⟨fun | 171 => 43 | 243 => 52 | 246 => 65 | 283 => 73 | 284 => 74 | 285 => 75 | 286 => 76 | 129 => 86 | 317 => 85 | 318 => 87 | 319 => 88 | 320 => 89 | 337 => 92 | 338 => 93 | n => n, fun | 3 => 3 | 9 => 9 | 2 => 2 | 4 => 4 | 171 => 154 | 0 => 0 | 53 => 148 | 37 => 61 | 5 => 5 | 173 => 157 | 212 => 172 | 51 => 145 | 20 => 20 | 213 => 173 | 46 => 134 | 232 => 184 | 233 => 185 | n => n, fun | 17 => 3 | 18 => 6 | 19 => 7 | n => n⟩
theorem Tryd.laysM171 : Go.Proofs.LaysM.n171 Tryd.prog Tryd.laysM171_ren := {
  mixed := by kernel_rfl
  f129 := Tryd.func86.trans (congrArg some (by kernel_rfl))
  f171 := Tryd.func43.trans (congrArg some (by kernel_rfl))
  f243 := Tryd.func52.trans (congrArg some (by kernel_rfl))
  f246 := Tryd.func65.trans (congrArg some (by kernel_rfl))
  f283 := Tryd.func73.trans (congrArg some (by kernel_rfl))
  f284 := Tryd.func74.trans (congrArg some (by kernel_rfl))
  f285 := Tryd.func75.trans (congrArg some (by kernel_rfl))
  f286 := Tryd.func76.trans (congrArg some (by kernel_rfl))
  f317 := Tryd.func85.trans (congrArg some (by kernel_rfl))
  f318 := Tryd.func87.trans (congrArg some (by kernel_rfl))
  f319 := Tryd.func88.trans (congrArg some (by kernel_rfl))
  f320 := Tryd.func89.trans (congrArg some (by kernel_rfl))
  f337 := Tryd.func92.trans (congrArg some (by kernel_rfl))
  f338 := Tryd.func93.trans (congrArg some (by kernel_rfl))
  t0 := Tryd.underlying0
  a0 := Tryd.isAgg0
  z0 := Tryd.sizeOf0
  v0 := Tryd.zeroValue0
  t2 := Tryd.underlying2
  a2 := Tryd.isAgg2
  z2 := Tryd.sizeOf2
  v2 := Tryd.zeroValue2
  t3 := Tryd.underlying3
  a3 := Tryd.isAgg3
  z3 := Tryd.sizeOf3
  v3 := Tryd.zeroValue3
  t4 := Tryd.underlying4
  a4 := Tryd.isAgg4
  z4 := Tryd.sizeOf4
  v4 := Tryd.zeroValue4
  t5 := Tryd.underlying5
  a5 := Tryd.isAgg5
  z5 := Tryd.sizeOf5
  v5 := Tryd.zeroValue5
  t9 := Tryd.underlying9
  a9 := Tryd.isAgg9
  z9 := Tryd.sizeOf9
  v9 := Tryd.zeroValue9
  t20 := Tryd.underlying20
  a20 := Tryd.isAgg20
  z20 := Tryd.sizeOf20
  v20 := Tryd.zeroValue20
  t37 := Tryd.underlying61
  a37 := Tryd.isAgg61
  z37 := Tryd.sizeOf61
  v37 := Tryd.zeroValue61
  t46 := Tryd.underlying134
  a46 := Tryd.isAgg134
  z46 := Tryd.sizeOf134
  v46 := Tryd.zeroValue134
  t51 := Tryd.underlying145
  a51 := Tryd.isAgg145
  z51 := Tryd.sizeOf145
  v51 := Tryd.zeroValue145
  t53 := Tryd.underlying148
  a53 := Tryd.isAgg148
  z53 := Tryd.sizeOf148
  v53 := Tryd.zeroValue148
  t171 := Tryd.underlying154
  a171 := Tryd.isAgg154
  z171 := Tryd.sizeOf154
  v171 := Tryd.zeroValue154
  t173 := Tryd.underlying157
  a173 := Tryd.isAgg157
  z173 := Tryd.sizeOf157
  v173 := Tryd.zeroValue157
  t212 := Tryd.underlying172
  a212 := Tryd.isAgg172
  z212 := Tryd.sizeOf172
  v212 := Tryd.zeroValue172
  t213 := Tryd.underlying173
  a213 := Tryd.isAgg173
  z213 := Tryd.sizeOf173
  t232 := Tryd.underlying184
  a232 := Tryd.isAgg184
  z232 := Tryd.sizeOf184
  v232 := Tryd.zeroValue184
  t233 := Tryd.underlying185
  a233 := Tryd.isAgg185
  z233 := Tryd.sizeOf185
  v233 := Tryd.zeroValue185
  g17 := by kernel_rfl
  g18 := by kernel_rfl
  g19 := by kernel_rfl
  i0 := by kernel_rfl
  i2 := by kernel_rfl
  i3 := by kernel_rfl
  i4 := by kernel_rfl
  i5 := by kernel_rfl
  i9 := by kernel_rfl
  i20 := by kernel_rfl
  i37 := by kernel_rfl
  i46 := by kernel_rfl
  i51 := by kernel_rfl
  i53 := by kernel_rfl
  i171 := by kernel_rfl
  i173 := by kernel_rfl
  i212 := by kernel_rfl
  i232 := by kernel_rfl
  i233 := by kernel_rfl
  m17 := by kernel_rfl
  m18 := by kernel_rfl
  m19 := by kernel_rfl }
open Go.RowKit Go.Sort Go.Lib in
/-- strconv.Itoa: "Itoa is equivalent to FormatInt(int64(i), 10).": i's DECIMAL NUMERAL ('Lib.itoa': a '-' where i is negative, then the digits), FOR EVERY int. The world behind the call: the world before it, new blocks behind the heap (the library's 'var a [24]byte'), draws. (LAID: no walk: one application.) -/
theorem Tryd.strconv_Itoa (n : Int) (h0 : -9223372036854775808 ≤ n) (h1 : n ≤ 9223372036854775807) (w : World) (htab : Lib.TabIs Tryd.prog w "internal/strconv.uint64pow10" .u64 Lib.pow10Tab) :
    Calls Tryd.prog 43 #[.int .i64 n] w fun e w' => e = .returned (.string ⟨(Lib.itoa n).toArray⟩) ∧ ∃ k os, w' = grow (w.drewN k) os := Any.strconv_Itoa Tryd.laysM171 n h0 h1 w htab
def Tryd.laysC172_ren : Go.Shelf.Ren := ⟨fun | 172 => 42 | 244 => 50 | 245 => 51 | 247 => 60 | 279 => 61 | 280 => 62 | 281 => 63 | 282 => 64 | 287 => 70 | 316 => 71 | 171 => 43 | 205 => 72 | 321 => 83 | 322 => 84 | 243 => 52 | 246 => 65 | 283 => 73 | 284 => 74 | 285 => 75 | 286 => 76 | 129 => 86 | 317 => 85 | 318 => 87 | 319 => 88 | 320 => 89 | 337 => 92 | 338 => 93 | n => n, fun | 9 => 9 | 3 => 3 | 75 => 39 | 76 => 121 | 4 => 4 | 5 => 5 | 167 => 135 | 37 => 61 | 0 => 0 | 85 => 136 | 2 => 2 | 168 => 138 | 53 => 148 | 175 => 149 | 46 => 134 | 210 => 152 | 127 => 167 | 145 => 170 | 143 => 168 | 21 => 21 | 171 => 154 | 173 => 157 | 212 => 172 | 51 => 145 | 20 => 20 | 213 => 173 | 232 => 184 | 233 => 185 | 80 => 165 | n => n, fun | 15 => 1 | 16 => 2 | 17 => 3 | 18 => 6 | 19 => 7 | n => n⟩
theorem Tryd.laysC172 : Go.Proofs.LaysC.n172 Tryd.prog Tryd.laysC172_ren := {
  mixed := by kernel_rfl
  f129 := Tryd.func86.trans (congrArg some (by kernel_rfl))
  f171 := Tryd.func43.trans (congrArg some (by kernel_rfl))
  f172 := Tryd.func42.trans (congrArg some (by kernel_rfl))
  f205 := Tryd.func72.trans (congrArg some (by kernel_rfl))
  f243 := Tryd.func52.trans (congrArg some (by kernel_rfl))
  f244 := Tryd.func50.trans (congrArg some (by kernel_rfl))
  f245 := Tryd.func51.trans (congrArg some (by kernel_rfl))
  f246 := Tryd.func65.trans (congrArg some (by kernel_rfl))
  f247 := Tryd.func60.trans (congrArg some (by kernel_rfl))
  f279 := Tryd.func61.trans (congrArg some (by kernel_rfl))
  f280 := Tryd.func62.trans (congrArg some (by kernel_rfl))
  f281 := Tryd.func63.trans (congrArg some (by kernel_rfl))
  f282 := Tryd.func64.trans (congrArg some (by kernel_rfl))
  f283 := Tryd.func73.trans (congrArg some (by kernel_rfl))
  f284 := Tryd.func74.trans (congrArg some (by kernel_rfl))
  f285 := Tryd.func75.trans (congrArg some (by kernel_rfl))
  f286 := Tryd.func76.trans (congrArg some (by kernel_rfl))
  f287 := Tryd.func70.trans (congrArg some (by kernel_rfl))
  f316 := Tryd.func71.trans (congrArg some (by kernel_rfl))
  f317 := Tryd.func85.trans (congrArg some (by kernel_rfl))
  f318 := Tryd.func87.trans (congrArg some (by kernel_rfl))
  f319 := Tryd.func88.trans (congrArg some (by kernel_rfl))
  f320 := Tryd.func89.trans (congrArg some (by kernel_rfl))
  f321 := Tryd.func83.trans (congrArg some (by kernel_rfl))
  f322 := Tryd.func84.trans (congrArg some (by kernel_rfl))
  f337 := Tryd.func92.trans (congrArg some (by kernel_rfl))
  f338 := Tryd.func93.trans (congrArg some (by kernel_rfl))
  t0 := Tryd.underlying0
  a0 := Tryd.isAgg0
  z0 := Tryd.sizeOf0
  v0 := Tryd.zeroValue0
  t2 := Tryd.underlying2
  a2 := Tryd.isAgg2
  z2 := Tryd.sizeOf2
  v2 := Tryd.zeroValue2
  t3 := Tryd.underlying3
  a3 := Tryd.isAgg3
  z3 := Tryd.sizeOf3
  v3 := Tryd.zeroValue3
  t4 := Tryd.underlying4
  a4 := Tryd.isAgg4
  z4 := Tryd.sizeOf4
  v4 := Tryd.zeroValue4
  t5 := Tryd.underlying5
  a5 := Tryd.isAgg5
  z5 := Tryd.sizeOf5
  v5 := Tryd.zeroValue5
  t9 := Tryd.underlying9
  a9 := Tryd.isAgg9
  z9 := Tryd.sizeOf9
  v9 := Tryd.zeroValue9
  t20 := Tryd.underlying20
  a20 := Tryd.isAgg20
  z20 := Tryd.sizeOf20
  v20 := Tryd.zeroValue20
  t21 := Tryd.underlying21
  a21 := Tryd.isAgg21
  z21 := Tryd.sizeOf21
  v21 := Tryd.zeroValue21
  t37 := Tryd.underlying61
  a37 := Tryd.isAgg61
  z37 := Tryd.sizeOf61
  v37 := Tryd.zeroValue61
  t46 := Tryd.underlying134
  a46 := Tryd.isAgg134
  z46 := Tryd.sizeOf134
  v46 := Tryd.zeroValue134
  t51 := Tryd.underlying145
  a51 := Tryd.isAgg145
  z51 := Tryd.sizeOf145
  v51 := Tryd.zeroValue145
  t53 := Tryd.underlying148
  a53 := Tryd.isAgg148
  z53 := Tryd.sizeOf148
  v53 := Tryd.zeroValue148
  t75 := Tryd.underlying39
  a75 := Tryd.isAgg39
  z75 := Tryd.sizeOf39
  v75 := Tryd.zeroValue39
  t76 := Tryd.underlying121
  a76 := Tryd.isAgg121
  z76 := Tryd.sizeOf121
  v76 := Tryd.zeroValue121
  t85 := Tryd.underlying136
  a85 := Tryd.isAgg136
  z85 := Tryd.sizeOf136
  v85 := Tryd.zeroValue136
  t127 := Tryd.underlying167
  a127 := Tryd.isAgg167
  z127 := Tryd.sizeOf167
  v127 := Tryd.zeroValue167
  t143 := Tryd.underlying168
  a143 := Tryd.isAgg168
  z143 := Tryd.sizeOf168
  v143 := Tryd.zeroValue168
  t145 := Tryd.underlying170
  a145 := Tryd.isAgg170
  z145 := Tryd.sizeOf170
  v145 := Tryd.zeroValue170
  t167 := Tryd.underlying135
  a167 := Tryd.isAgg135
  z167 := Tryd.sizeOf135
  v167 := Tryd.zeroValue135
  t168 := Tryd.underlying138
  a168 := Tryd.isAgg138
  z168 := Tryd.sizeOf138
  v168 := Tryd.zeroValue138
  t171 := Tryd.underlying154
  a171 := Tryd.isAgg154
  z171 := Tryd.sizeOf154
  v171 := Tryd.zeroValue154
  t173 := Tryd.underlying157
  a173 := Tryd.isAgg157
  z173 := Tryd.sizeOf157
  v173 := Tryd.zeroValue157
  t175 := Tryd.underlying149
  a175 := Tryd.isAgg149
  z175 := Tryd.sizeOf149
  v175 := Tryd.zeroValue149
  t210 := Tryd.underlying152
  a210 := Tryd.isAgg152
  z210 := Tryd.sizeOf152
  v210 := Tryd.zeroValue152
  t212 := Tryd.underlying172
  a212 := Tryd.isAgg172
  z212 := Tryd.sizeOf172
  v212 := Tryd.zeroValue172
  t213 := Tryd.underlying173
  a213 := Tryd.isAgg173
  z213 := Tryd.sizeOf173
  t232 := Tryd.underlying184
  a232 := Tryd.isAgg184
  z232 := Tryd.sizeOf184
  v232 := Tryd.zeroValue184
  t233 := Tryd.underlying185
  a233 := Tryd.isAgg185
  z233 := Tryd.sizeOf185
  v233 := Tryd.zeroValue185
  g15 := by kernel_rfl
  g16 := by kernel_rfl
  g17 := by kernel_rfl
  g18 := by kernel_rfl
  g19 := by kernel_rfl
  t80 := Tryd.underlying165
  a80 := Tryd.isAgg165
  z80 := Tryd.sizeOf165
  v80 := Tryd.zeroValue165
  i0 := by kernel_rfl
  i2 := by kernel_rfl
  i3 := by kernel_rfl
  i4 := by kernel_rfl
  i5 := by kernel_rfl
  i9 := by kernel_rfl
  i20 := by kernel_rfl
  i21 := by kernel_rfl
  i37 := by kernel_rfl
  i46 := by kernel_rfl
  i51 := by kernel_rfl
  i53 := by kernel_rfl
  i75 := by kernel_rfl
  i76 := by kernel_rfl
  i80 := by kernel_rfl
  i85 := by kernel_rfl
  i127 := by kernel_rfl
  i143 := by kernel_rfl
  i145 := by kernel_rfl
  i167 := by kernel_rfl
  i168 := by kernel_rfl
  i171 := by kernel_rfl
  i173 := by kernel_rfl
  i175 := by kernel_rfl
  i210 := by kernel_rfl
  i212 := by kernel_rfl
  i232 := by kernel_rfl
  i233 := by kernel_rfl
  m15 := by kernel_rfl
  m16 := by kernel_rfl
  m17 := by kernel_rfl
  m18 := by kernel_rfl
  m19 := by kernel_rfl
  c0 := by kernel_rfl
  c2 := by kernel_rfl
  c3 := by kernel_rfl
  c4 := by kernel_rfl
  c5 := by kernel_rfl
  c9 := by kernel_rfl
  c20 := by kernel_rfl
  c21 := by kernel_rfl
  c37 := by kernel_rfl
  c46 := by kernel_rfl
  c51 := by kernel_rfl
  c53 := by kernel_rfl
  c75 := by kernel_rfl
  c76 := by kernel_rfl
  c80 := by kernel_rfl
  c85 := by kernel_rfl
  c127 := by kernel_rfl
  c143 := by kernel_rfl
  c145 := by kernel_rfl
  c167 := by kernel_rfl
  c168 := by kernel_rfl
  c171 := by kernel_rfl
  c173 := by kernel_rfl
  c175 := by kernel_rfl
  c210 := by kernel_rfl
  c212 := by kernel_rfl
  c213 := by kernel_rfl
  c232 := by kernel_rfl
  c233 := by kernel_rfl }
open Go.RowKit in
/-- strconv.Atoi, AT EVERY STRING THAT SPELLS AN int ('Lib.atoiAll .. = .ok v'; of whatever length: leading zeros count): v, AND NO ERROR. The world: as it was, or with the one new row that '[]byte(..)' lays. (LAID: no walk: one application.) -/
theorem Tryd.strconv_Atoi_ok (s : ByteArray) (hmax : s.size ≤ 9223372036854775806) (v : Int) (h : Lib.atoiAll s.data.toList = .ok v) (w : World) :
    Calls Tryd.prog 42 #[.string s] w fun e w' => e = .returned (.tuple #[.int .i64 v, .nilIface]) ∧ (w' = w ∨ ∃ t, w' = Lib.bytesWorld w 5 t) := Any.strconv_Atoi_ok Tryd.laysC172 s hmax v h w
open Go.RowKit in
theorem Tryd.strconv_Atoi_range_var (s : ByteArray) (hlim : s.size ≤ 281474976710656) (h : Lib.atoiAll s.data.toList = .range) (tp : TypeId) (p : Value) (w : World) (hvar : w.var? Tryd.prog "strconv.ErrRange" = some #[.iface tp p]) :
    Calls Tryd.prog 42 #[.string s] w fun e w' => ∃ N, e = .returned (.tuple #[.int .i64 (Lib.atoiSat s.data.toList), .iface 138 (.pointer (some ⟨N, 0, none⟩))]) ∧ w.heap.size ≤ N ∧ w'.heap[N]? = some (.cells #[.string ⟨#[65, 116, 111, 105]⟩, .string s, .iface tp p] 152 (0, 0)) ∧ Below w.heap.size w w' := Any.strconv_Atoi_range_var Tryd.laysC172 s hlim h tp p w hvar
def Tryd.laysM145_ren : Go.Shelf.Ren := ⟨fun | 145 => 25 | 220 => 41 | 219 => 49 | 217 => 56 | 225 => 57 | 224 => 58 | 267 => 59 | 266 => 68 | 314 => 69 | n => n, fun | 9 => 9 | 4 => 4 | 59 => 97 | 3 => 3 | 5 => 5 | 46 => 134 | 146 => 146 | 51 => 145 | n => n, fun | 1 => 0 | n => n⟩
theorem Tryd.laysM145 : Go.Proofs.LaysM.n145 Tryd.prog Tryd.laysM145_ren := {
  mixed := by kernel_rfl
  f145 := Tryd.func25.trans (congrArg some (by kernel_rfl))
  f217 := Tryd.func56.trans (congrArg some (by kernel_rfl))
  f219 := Tryd.func49.trans (congrArg some (by kernel_rfl))
  f220 := Tryd.func41.trans (congrArg some (by kernel_rfl))
  f224 := Tryd.func58.trans (congrArg some (by kernel_rfl))
  f225 := Tryd.func57.trans (congrArg some (by kernel_rfl))
  f266 := Tryd.func68.trans (congrArg some (by kernel_rfl))
  f267 := Tryd.func59.trans (congrArg some (by kernel_rfl))
  f314 := Tryd.func69.trans (congrArg some (by kernel_rfl))
  t3 := Tryd.underlying3
  a3 := Tryd.isAgg3
  z3 := Tryd.sizeOf3
  v3 := Tryd.zeroValue3
  t4 := Tryd.underlying4
  a4 := Tryd.isAgg4
  z4 := Tryd.sizeOf4
  v4 := Tryd.zeroValue4
  t5 := Tryd.underlying5
  a5 := Tryd.isAgg5
  z5 := Tryd.sizeOf5
  v5 := Tryd.zeroValue5
  t9 := Tryd.underlying9
  a9 := Tryd.isAgg9
  z9 := Tryd.sizeOf9
  v9 := Tryd.zeroValue9
  t46 := Tryd.underlying134
  a46 := Tryd.isAgg134
  z46 := Tryd.sizeOf134
  v46 := Tryd.zeroValue134
  t51 := Tryd.underlying145
  a51 := Tryd.isAgg145
  z51 := Tryd.sizeOf145
  v51 := Tryd.zeroValue145
  t59 := Tryd.underlying97
  a59 := Tryd.isAgg97
  z59 := Tryd.sizeOf97
  v59 := Tryd.zeroValue97
  t146 := Tryd.underlying146
  a146 := Tryd.isAgg146
  z146 := Tryd.sizeOf146
  v146 := Tryd.zeroValue146
  g1 := by kernel_rfl
  i3 := by kernel_rfl
  i4 := by kernel_rfl
  i5 := by kernel_rfl
  i9 := by kernel_rfl
  i46 := by kernel_rfl
  i51 := by kernel_rfl
  i59 := by kernel_rfl
  i146 := by kernel_rfl
  m1 := by kernel_rfl
  s1_3 := fun w h => Go.Proofs.cell_of_shapedOpen_int (zero := #[.int .i64 0]) (t := 3) h (of_decide_eq_true (by kernel_rfl)) (by kernel_rfl) rfl (by kernel_rfl) (by kernel_rfl) Tryd.underlying3 }
open Go.RowKit Go.Lib in
theorem Tryd.strings_Cut_shaped (s sep : ByteArray) (w : World) (h : w.ShapedOpen Tryd.prog) (hs : s.size < 4294967281) :
    Calls Tryd.prog 25 #[.string s, .string sep] w fun e w' => e = .returned (.tuple #[.string ⟨(Lib.cut s.data.toList sep.data.toList).1.toArray⟩, .string ⟨(Lib.cut s.data.toList sep.data.toList).2.1.toArray⟩, .bool (Lib.cut s.data.toList sep.data.toList).2.2]) ∧ ∃ n, w' = w.drewN n := Any.strings_Cut_shaped Tryd.laysM145 s sep w h hs
def Tryd.lays197_ren : Go.Shelf.Ren := ⟨fun | 197 => 67 | 260 => 82 | n => n, fun | 9 => 9 | 21 => 21 | 3 => 3 | 4 => 4 | 5 => 5 | 105 => 143 | 119 => 177 | 0 => 0 | 46 => 134 | 139 => 180 | 138 => 179 | n => n, fun | 3 => 4 | 4 => 5 | n => n⟩
theorem Tryd.lays197 : Go.Proofs.Lays.n197 Tryd.prog Tryd.lays197_ren := {
  mixed := by kernel_rfl
  f197 := Tryd.func67.trans (congrArg some (by kernel_rfl))
  f260 := Tryd.func82.trans (congrArg some (by kernel_rfl))
  t0 := Tryd.underlying0
  a0 := Tryd.isAgg0
  z0 := Tryd.sizeOf0
  v0 := Tryd.zeroValue0
  t3 := Tryd.underlying3
  a3 := Tryd.isAgg3
  z3 := Tryd.sizeOf3
  v3 := Tryd.zeroValue3
  t4 := Tryd.underlying4
  a4 := Tryd.isAgg4
  z4 := Tryd.sizeOf4
  v4 := Tryd.zeroValue4
  t5 := Tryd.underlying5
  a5 := Tryd.isAgg5
  z5 := Tryd.sizeOf5
  v5 := Tryd.zeroValue5
  t9 := Tryd.underlying9
  a9 := Tryd.isAgg9
  z9 := Tryd.sizeOf9
  v9 := Tryd.zeroValue9
  t21 := Tryd.underlying21
  a21 := Tryd.isAgg21
  z21 := Tryd.sizeOf21
  v21 := Tryd.zeroValue21
  t46 := Tryd.underlying134
  a46 := Tryd.isAgg134
  z46 := Tryd.sizeOf134
  v46 := Tryd.zeroValue134
  t105 := Tryd.underlying143
  a105 := Tryd.isAgg143
  z105 := Tryd.sizeOf143
  v105 := Tryd.zeroValue143
  t119 := Tryd.underlying177
  a119 := Tryd.isAgg177
  z119 := Tryd.sizeOf177
  t138 := Tryd.underlying179
  a138 := Tryd.isAgg179
  z138 := Tryd.sizeOf179
  v138 := Tryd.zeroValue179
  t139 := Tryd.underlying180
  a139 := Tryd.isAgg180
  z139 := Tryd.sizeOf180
  v139 := Tryd.zeroValue180
  g3 := by kernel_rfl
  g4 := by kernel_rfl }
open Go.RowKit Go.Lib in
/-- **unicode/utf8.DecodeRuneInString AT EVERY STRING.** (LAID: no walk: one application.) -/
theorem Tryd.utf8_DecodeRuneInString (s : ByteArray) (w : World) (hT : Lib.Utf8Tabs 4 5 w) :
    Calls Tryd.prog 67 #[.string s] w fun e w' => e = .returned (.tuple #[.int .i32 (Lib.decodeGo s).1, .int .i64 (Lib.decodeGo s).2]) ∧ Below w.heap.size w w' := Any.utf8_DecodeRuneInString Tryd.lays197 s w hT
def Tryd.lays229_ren : Go.Shelf.Ren := ⟨fun | 229 => 23 | n => n, fun | 9 => 9 | 40 => 96 | 31 => 94 | 152 => 118 | 3 => 3 | 0 => 0 | 4 => 4 | 21 => 21 | 154 => 120 | n => n, fun | n => n⟩
theorem Tryd.lays229 : Go.Proofs.Lays.n229 Tryd.prog Tryd.lays229_ren := {
  mixed := by kernel_rfl
  f229 := Tryd.func23.trans (congrArg some (by kernel_rfl))
  t0 := Tryd.underlying0
  a0 := Tryd.isAgg0
  z0 := Tryd.sizeOf0
  v0 := Tryd.zeroValue0
  t3 := Tryd.underlying3
  a3 := Tryd.isAgg3
  z3 := Tryd.sizeOf3
  v3 := Tryd.zeroValue3
  t4 := Tryd.underlying4
  a4 := Tryd.isAgg4
  z4 := Tryd.sizeOf4
  v4 := Tryd.zeroValue4
  t9 := Tryd.underlying9
  a9 := Tryd.isAgg9
  z9 := Tryd.sizeOf9
  v9 := Tryd.zeroValue9
  t21 := Tryd.underlying21
  a21 := Tryd.isAgg21
  z21 := Tryd.sizeOf21
  v21 := Tryd.zeroValue21
  t31 := Tryd.underlying94
  a31 := Tryd.isAgg94
  z31 := Tryd.sizeOf94
  v31 := Tryd.zeroValue94
  t40 := Tryd.underlying96
  a40 := Tryd.isAgg96
  z40 := Tryd.sizeOf96
  v40 := Tryd.zeroValue96
  t152 := Tryd.underlying118
  a152 := Tryd.isAgg118
  z152 := Tryd.sizeOf118
  v152 := Tryd.zeroValue118
  t154 := Tryd.underlying120
  a154 := Tryd.isAgg120
  z154 := Tryd.sizeOf120
  v154 := Tryd.zeroValue120 }
open Go.RowKit Go.Lib in
/-- .. over a hand of the authors' house's premise as it stands. (LAID: no walk: one application.) -/
theorem Tryd.strings_FieldsFunc (g : Nat) (lb : Array Value) (eg : ∀ args w, (callFunc g args).run Tryd.prog w = .ok (.enter g args) w) (p : Nat → Bool) (s : ByteArray) (w : World) (hs : s.size ≤ 4294967296) (hp : PredAt Tryd.prog g lb encR p w) :
    Calls Tryd.prog 23 #[.string s, .func (.func g) #[] lb] w fun e w' => ∃ A, e = .returned (.slice (some ⟨A, 0, none⟩) (Lib.goFieldsP p s).length (Lib.goFieldsP p s).length) ∧ w.heap.size ≤ A ∧
      w'.ownsRow w.heap.size 9 1 (.slice (some ⟨A, 0, none⟩) (Lib.goFieldsP p s).length (Lib.goFieldsP p s).length) (Lib.goFieldsP p s).length ((Lib.goFieldsP p s).map Value.string) ∧ Below w.heap.size w w' := Any.strings_FieldsFunc Tryd.lays229 g lb eg p s w hs hp (by kernel_rfl) (by kernel_rfl)
end Go.Proofs
/- A builder of strings: its check and its bytes, at this program. -/
namespace Go.Fn
open Go Go.Proofs Go.Shelf Go.RowKit

set_option maxRecDepth 100000 in
set_option maxHeartbeats 1000000 in
theorem cc_fresh (b : Nat) (w : World) (h0 : w.cell? ⟨b, 0, none⟩ = some (.pointer none)) (hsh : w.shape? b = some (161, 2)) (hfz : w.frozen? ⟨b, 0, none⟩ = false) :
    Calls Tryd.prog 90 #[.pointer (some ⟨b, 0, none⟩)] w fun e w' => e = .returned (.tuple #[]) ∧ w' = w.setCell ⟨b, 0, none⟩ (.pointer (some ⟨b, 0, none⟩)) := by
  obtain ⟨j, hj, hjs⟩ := Option.map_eq_some_iff.1 Tryd.Builder_Extra_169.sizeBuilder
  have t72 := Tryd.underlying161; have a72 := Tryd.isAgg161; have z72 := Tryd.sizeOf161; have v72 := Tryd.zeroValue161; have u72 := run_underlying Tryd.underlying161
  have t70 := Tryd.underlying159; have a70 := Tryd.isAgg159; have z70 := Tryd.sizeOf159; have v70 := Tryd.zeroValue159; have u70 := run_underlying Tryd.underlying159
  have t4 := Tryd.underlying4; have a4 := Tryd.isAgg4; have z4 := Tryd.sizeOf4; have v4 := Tryd.zeroValue4; have u4 := run_underlying Tryd.underlying4
  have t164 := Tryd.underlying182; have a164 := Tryd.isAgg182; have z164 := Tryd.sizeOf182; have v164 := Tryd.zeroValue182; have u164 := run_underlying Tryd.underlying182
  go_enter Tryd.func90, Tryd.ntmps90
  go_wp2
  rw [Lib.run_to_unsafe w ⟨b, 0, none⟩ Tryd.underlying159 Tryd.underlying182 hj (by rw [hjs]; decide) hsh (Nat.zero_lt_succ 1)]
  simp only [Result.andThen]
  rw [Oper.upon_value]
  go_wp2
  rw [run_callFunc_extern Tryd.func94 (by kernel_rfl) (by kernel_rfl) (by kernel_rfl) (e := Extern.AbiNoEscape.same) (by kernel_rfl)]
  rw [Lib.run_noEscape]
  simp only [Result.andThen]
  rw [Oper.upon_value]
  go_wp2
  rw [Lib.run_from_unsafe w ⟨b, 0, none⟩ Tryd.underlying182 Tryd.underlying159 hj hsh Tryd.Builder_Extra_169.liesBuilder]
  simp only [Result.andThen]
  rw [Oper.upon_value]
  go_wp2
  go_end0
  exact ⟨rfl, rfl⟩
set_option maxRecDepth 100000 in
set_option maxHeartbeats 1000000 in
theorem cc_used (b : Nat) (w : World) (h0 : w.cell? ⟨b, 0, none⟩ = some (.pointer (some ⟨b, 0, none⟩))) :
    Calls Tryd.prog 90 #[.pointer (some ⟨b, 0, none⟩)] w fun e w' => e = .returned (.tuple #[]) ∧ w' = w := by
  obtain ⟨j, hj, _⟩ := Option.map_eq_some_iff.1 Tryd.Builder_Extra_169.sizeBuilder
  have t72 := Tryd.underlying161; have a72 := Tryd.isAgg161; have z72 := Tryd.sizeOf161; have v72 := Tryd.zeroValue161; have u72 := run_underlying Tryd.underlying161
  have t70 := Tryd.underlying159; have a70 := Tryd.isAgg159; have z70 := Tryd.sizeOf159; have v70 := Tryd.zeroValue159; have u70 := run_underlying Tryd.underlying159
  have t4 := Tryd.underlying4; have a4 := Tryd.isAgg4; have z4 := Tryd.sizeOf4; have v4 := Tryd.zeroValue4; have u4 := run_underlying Tryd.underlying4
  have t164 := Tryd.underlying182; have a164 := Tryd.isAgg182; have z164 := Tryd.sizeOf182; have v164 := Tryd.zeroValue182; have u164 := run_underlying Tryd.underlying182
  go_enter Tryd.func90, Tryd.ntmps90
  go_wp2
  rw [Lib.run_neq_ptr_same w _ Tryd.underlying159 hj]
  go_wp2
  go_end0
  exact ⟨rfl, rfl⟩
theorem cc_k (B b : Nat) (bs : List Value) (w : World) (h : Lib.IsBuilderF 161 5 B b bs w) :
    Calls Tryd.prog 90 #[.pointer (some ⟨b, 0, none⟩)] w fun e w' => e = .returned (.tuple #[]) ∧ (Lib.BuilderAtF 161 5 B b (.pointer (some ⟨b, 0, none⟩)) bs w' ∧ Below B w w') := by
  rcases h with h | h
  · refine (cc_fresh b w h.cell0 h.shape h.frozen0).mono ?_
    rintro e w' ⟨rfl, rfl⟩
    exact ⟨rfl, h.used _, (Below.refl B w).setCell (p := ⟨b, 0, none⟩) h.1 _⟩
  · refine (cc_used b w h.cell0).mono ?_
    rintro e w' ⟨rfl, rfl⟩
    exact ⟨rfl, h, Below.refl B _⟩
set_option maxHeartbeats 2000000 in
set_option maxRecDepth 100000 in
theorem wb_k (B b : Nat) (bs : List Value) (c : Int) (w : World) (h : Lib.IsBuilderF 161 5 B b bs w) (hlen : bs.length + 1 ≤ 140737488355328) (hBw : B ≤ w.heap.size) :
    Calls Tryd.prog 78 #[.pointer (some ⟨b, 0, none⟩), .int .u8 c] w fun e w' => e = .returned .nilIface ∧ (Lib.BuilderAtF 161 5 B b (.pointer (some ⟨b, 0, none⟩)) (bs ++ [.int .u8 c]) w' ∧ Below B w w') := by
  obtain ⟨i0, hi, hz0, hz1, hz2⟩ := info_parts Tryd.Builder_Extra_169.infoByte
  have t72 := Tryd.underlying161; have a72 := Tryd.isAgg161; have z72 := Tryd.sizeOf161; have v72 := Tryd.zeroValue161; have u72 := run_underlying Tryd.underlying161
  have t70 := Tryd.underlying159; have a70 := Tryd.isAgg159; have z70 := Tryd.sizeOf159; have v70 := Tryd.zeroValue159; have u70 := run_underlying Tryd.underlying159
  have t5 := Tryd.underlying5; have a5 := Tryd.isAgg5; have z5 := Tryd.sizeOf5; have v5 := Tryd.zeroValue5; have u5 := run_underlying Tryd.underlying5
  have t37 := Tryd.underlying61; have a37 := Tryd.isAgg61; have z37 := Tryd.sizeOf61; have v37 := Tryd.zeroValue61; have u37 := run_underlying Tryd.underlying61
  have t4 := Tryd.underlying4; have a4 := Tryd.isAgg4; have z4 := Tryd.sizeOf4; have v4 := Tryd.zeroValue4; have u4 := run_underlying Tryd.underlying4
  have e240 : ∀ args w, (callFunc 90 args).run Tryd.prog w = .ok (.enter 90 args) w := enters_of Tryd.func90 (by kernel_rfl) rfl
  go_enter Tryd.func78, Tryd.ntmps78
  go_wp2_with (go_at_fn 90; refine (cc_k B b bs _ h).mono ?_)
  rintro e w1 ⟨rfl, h1, hb1⟩
  obtain ⟨hB, v, hbk, hown, hne⟩ := h1
  have c0 : w1.cell? ⟨b, 0, none⟩ = some (.pointer (some ⟨b, 0, none⟩)) := by rw [Lib.cell_of_heap hbk]; rfl
  have c1 : w1.cell? ⟨b, 1, none⟩ = some v := by rw [Lib.cell_of_heap hbk]; rfl
  go_wp2_with (at_builtin; refine wpList_append_ownF _ rfl _ _ 61 rfl B 5 i0 (.int .u8 0) 1 1 Tryd.underlying61 hi hz0 hz1 hz2 rfl (by decide) _ _ _ rfl (hown.alloc _) ⟨w1.heap.size, 0, none⟩ 1 1 [.int .u8 c] rfl rfl ?c1 ?c2 ?c3 ?c4 ?c5 ?_)
  case c1 =>
    intro j u hj
    match j, hj with
    | 0, hj => simp at hj; subst hj; simp [Addr.add]
  case c2 => intro u hu; simp at hu; subst hu; rfl
  case c3 => unfold maxLen; omega
  case c4 => omega
  case c5 => have := hb1.size; simp; omega
  intro v' w2 hown' hgrow _
  have hlt : b < w1.heap.size := by
    rcases Nat.lt_or_ge b w1.heap.size with h' | h'
    · exact h'
    · simp [Array.getElem?_eq_none h'] at hbk
  have hb2 : w2.heap[b]? = some (.cells #[.pointer (some ⟨b, 0, none⟩), v] 161 (0, 0)) := by
    rw [hgrow.block b (by simp; omega) (fun e => hne e.symm), Lib.alloc_old w1 _ b hlt]
    exact hbk
  have d0 : w2.cell? ⟨b, 0, none⟩ = some (.pointer (some ⟨b, 0, none⟩)) := by rw [Lib.cell_of_heap hb2]; rfl
  have d1 : w2.cell? ⟨b, 1, none⟩ = some v := by rw [Lib.cell_of_heap hb2]; rfl
  have f1 : w2.frozen? ⟨b, 1, none⟩ = false := Lib.frozen_of_heap hb2 1
  obtain ⟨g, cap, rfl⟩ : ∃ g cap, v' = .slice (some ⟨g, 0, none⟩) (bs.length + 1) cap := by
    rcases hown'.2 with ⟨_, h0⟩ | ⟨g, cap, cur, fz, hv, _⟩
    · omega
    · exact ⟨g, cap, hv⟩
  go_wp2
  go_ret
  refine ⟨rfl, ?_, ?_⟩
  · exact Lib.BuilderAtF.put (T := 161) (e := 5) hB hb2 (bs' := bs ++ [.int .u8 c]) (by simpa using hown') (by decide)
  · exact ((hb1.alloc (by have := hb1.size; omega) _).grown hgrow (by have := hb1.size; simp; omega) (fun k hk => (hown.lt k hk).1)).setCell (p := ⟨b, 1, none⟩) hB _
def Tryd.lays242_ren : Go.Shelf.Ren := ⟨fun | 242 => 91 | 278 => 95 | n => n, fun | 70 => 159 | 72 => 161 | 4 => 4 | 5 => 5 | 21 => 21 | 37 => 61 | 46 => 134 | 51 => 145 | n => n, fun | n => n⟩
theorem Tryd.lays242 : Go.Proofs.Lays.n242 Tryd.prog Tryd.lays242_ren := {
  mixed := by kernel_rfl
  f242 := Tryd.func91.trans (congrArg some (by kernel_rfl))
  f278 := Tryd.func95.trans (congrArg some (by kernel_rfl))
  t4 := Tryd.underlying4
  a4 := Tryd.isAgg4
  z4 := Tryd.sizeOf4
  v4 := Tryd.zeroValue4
  t5 := Tryd.underlying5
  a5 := Tryd.isAgg5
  z5 := Tryd.sizeOf5
  v5 := Tryd.zeroValue5
  t21 := Tryd.underlying21
  a21 := Tryd.isAgg21
  z21 := Tryd.sizeOf21
  v21 := Tryd.zeroValue21
  t37 := Tryd.underlying61
  a37 := Tryd.isAgg61
  z37 := Tryd.sizeOf61
  v37 := Tryd.zeroValue61
  t46 := Tryd.underlying134
  a46 := Tryd.isAgg134
  z46 := Tryd.sizeOf134
  v46 := Tryd.zeroValue134
  t51 := Tryd.underlying145
  a51 := Tryd.isAgg145
  z51 := Tryd.sizeOf145
  v51 := Tryd.zeroValue145 }
theorem Tryd.Builder_Extra_242 : Builder.Extra Tryd.prog Tryd.lays242_ren := {
  sizeBuilder := by kernel_rfl
  liesBuilder := by kernel_rfl
  t5 := Tryd.underlying5
  a5 := Tryd.isAgg5
  z5 := Tryd.sizeOf5
  v5 := Tryd.zeroValue5
  infoByte := by kernel_rfl
  cellsByte := by kernel_rfl
  sizeByte := by kernel_rfl
  neB5 := by decide }
set_option maxHeartbeats 4000000 in
set_option maxRecDepth 100000 in
theorem wr_k (B b : Nat) (bs : List Value) (r : Int) (hr0 : -2147483648 ≤ r) (hr1 : r ≤ 2147483647) (w : World) (h : Lib.IsBuilderF 161 5 B b bs w) (hlen : bs.length + 4 ≤ 140737488355328) (hBw : B ≤ w.heap.size) :
    Calls Tryd.prog 79 #[.pointer (some ⟨b, 0, none⟩), .int .i32 r] w fun e w' => e = .returned (.tuple #[.int .i64 (Lib.runeCells r).length, .nilIface]) ∧ (Lib.BuilderAtF 161 5 B b (.pointer (some ⟨b, 0, none⟩)) (bs ++ Lib.runeCells r) w' ∧ Below B w w') := by
  have t0 := Tryd.underlying0; have a0 := Tryd.isAgg0; have z0 := Tryd.sizeOf0; have v0 := Tryd.zeroValue0; have u0 := run_underlying Tryd.underlying0
  have t3 := Tryd.underlying3; have a3 := Tryd.isAgg3; have z3 := Tryd.sizeOf3; have v3 := Tryd.zeroValue3; have u3 := run_underlying Tryd.underlying3
  have t4 := Tryd.underlying4; have a4 := Tryd.isAgg4; have z4 := Tryd.sizeOf4; have v4 := Tryd.zeroValue4; have u4 := run_underlying Tryd.underlying4
  have t5 := Tryd.underlying5; have a5 := Tryd.isAgg5; have z5 := Tryd.sizeOf5; have v5 := Tryd.zeroValue5; have u5 := run_underlying Tryd.underlying5
  have t9 := Tryd.underlying9; have a9 := Tryd.isAgg9; have z9 := Tryd.sizeOf9; have v9 := Tryd.zeroValue9; have u9 := run_underlying Tryd.underlying9
  have t21 := Tryd.underlying21; have a21 := Tryd.isAgg21; have z21 := Tryd.sizeOf21; have v21 := Tryd.zeroValue21; have u21 := run_underlying Tryd.underlying21
  have t61 := Tryd.underlying61; have a61 := Tryd.isAgg61; have z61 := Tryd.sizeOf61; have v61 := Tryd.zeroValue61; have u61 := run_underlying Tryd.underlying61
  have t159 := Tryd.underlying159; have a159 := Tryd.isAgg159; have z159 := Tryd.sizeOf159; have v159 := Tryd.zeroValue159; have u159 := run_underlying Tryd.underlying159
  have t161 := Tryd.underlying161; have a161 := Tryd.isAgg161; have z161 := Tryd.sizeOf161; have v161 := Tryd.zeroValue161; have u161 := run_underlying Tryd.underlying161
  have t182 := Tryd.underlying182; have a182 := Tryd.isAgg182; have z182 := Tryd.sizeOf182; have v182 := Tryd.zeroValue182; have u182 := run_underlying Tryd.underlying182
  have e240 : ∀ args w, (callFunc 90 args).run Tryd.prog w = .ok (.enter 90 args) w := enters_of Tryd.func90 (by kernel_rfl) rfl
  have e242 : ∀ args w, (callFunc 91 args).run Tryd.prog w = .ok (.enter 91 args) w := enters_of Tryd.func91 (by kernel_rfl) rfl
  have hk4 := Lib.runeCells_le r
  go_enter Tryd.func79, Tryd.ntmps79
  go_wp2_with (go_at_fn 90; refine (cc_k B b bs _ h).mono ?_)
  rintro e w1 ⟨rfl, h1, hb1⟩
  obtain ⟨hB, v, hbk, hown, hne⟩ := h1
  obtain ⟨ao, cap, rfl⟩ : ∃ ao cap, v = .slice ao bs.length cap := by
    rcases hown.2 with ⟨hv, h0⟩ | ⟨g, cap, cur, fz, hv, _⟩
    · exact ⟨none, 0, by rw [hv, h0]⟩
    · exact ⟨_, _, hv⟩
  have c0 : w1.cell? ⟨b, 0, none⟩ = some (.pointer (some ⟨b, 0, none⟩)) := by rw [Lib.cell_of_heap hbk]; rfl
  have c1 : w1.cell? ⟨b, 1, none⟩ = some (.slice ao bs.length cap) := by rw [Lib.cell_of_heap hbk]; rfl
  go_wp2_with (go_at_fn 91; refine (Any.utf8_AppendRune_own Tryd.lays242 Tryd.Builder_Extra_242 B _ bs.length bs r hr0 hr1 _ hown hlen (by have := hb1.size; omega)).mono ?_)
  rintro e w2 ⟨v', rfl, hown', o, hgrow⟩
  have hlt : b < w1.heap.size := by
    rcases Nat.lt_or_ge b w1.heap.size with h' | h'
    · exact h'
    · simp [Array.getElem?_eq_none h'] at hbk
  have hb2 : w2.heap[b]? = some (.cells #[.pointer (some ⟨b, 0, none⟩), .slice ao bs.length cap] 161 (0, 0)) := by
    rw [hgrow.block b (by simp; omega) (fun e => hne e.symm), Lib.alloc_old w1 _ b hlt]
    exact hbk
  have d0 : w2.cell? ⟨b, 0, none⟩ = some (.pointer (some ⟨b, 0, none⟩)) := by rw [Lib.cell_of_heap hb2]; rfl
  have d1 : w2.cell? ⟨b, 1, none⟩ = some (.slice ao bs.length cap) := by rw [Lib.cell_of_heap hb2]; rfl
  have f1 : w2.frozen? ⟨b, 1, none⟩ = false := Lib.frozen_of_heap hb2 1
  obtain ⟨g, cap', rfl⟩ : ∃ g cap', v' = .slice (some ⟨g, 0, none⟩) (bs.length + (Lib.runeCells r).length) cap' := by
    rcases hown'.2 with ⟨_, h0⟩ | ⟨g, cap', cur, fz, hv, _⟩
    · omega
    · exact ⟨g, cap', hv⟩
  go_wp2
  go_ret2
  refine ⟨?_, ?_, ?_⟩
  · have e : ((bs.length : Int) + ((Lib.runeCells r).length : Int) - (bs.length : Int)) = ((Lib.runeCells r).length : Int) := by omega
    simp [e]
  · exact Lib.BuilderAtF.put (T := 161) (e := 5) hB hb2 (bs' := bs ++ Lib.runeCells r) (by have h3 : w2.ownsRowF B 5 1 _ (bs.length + (Lib.runeCells r).length) (bs ++ Lib.runeCells r) := hown'; simpa using h3) (by decide)
  · exact ((hb1.alloc (by have := hb1.size; omega) _).grown hgrow (by have := hb1.size; simp; omega) (fun k hk => (hown.lt k hk).1)).setCell (p := ⟨b, 1, none⟩) hB _
end Go.Fn
/- text.Plain, walked. -/
namespace Go.Fn
open Go Go.Proofs Go.Shelf Go.RowKit

def ctlB (r : Int) : Bool := decide (r < 32) || (decide (127 ≤ r) && decide (r ≤ 159))
set_option maxHeartbeats 1000000 in
set_option maxRecDepth 100000 in
theorem control_walk (r : Int) (w : World) : Calls Tryd.prog 54 #[.int .i32 r] w fun e w' => e = .returned (.bool (ctlB r)) ∧ w' = w := by
  have t21 := Tryd.underlying21; have a21 := Tryd.isAgg21; have z21 := Tryd.sizeOf21; have v21 := Tryd.zeroValue21; have u21 := run_underlying Tryd.underlying21
  have t4 := Tryd.underlying4; have a4 := Tryd.isAgg4; have z4 := Tryd.sizeOf4; have v4 := Tryd.zeroValue4; have u4 := run_underlying Tryd.underlying4
  go_enter Tryd.func54, Tryd.ntmps54
  go_wp2
  all_goals go_ret
  all_goals refine ⟨?_, rfl⟩
  all_goals (first | (simp_all [ctlB]; done) | (simp_all [ctlB]; omega))
def badB (s : ByteArray) (p : Nat) : Bool := decide (((Lib.decodeGo (s.extract p s.size)).1 : Int) = 65533) && (((Lib.decodeGo (s.extract p s.size)).2 : Int) == 1)
set_option maxHeartbeats 1000000 in
set_option maxRecDepth 100000 in
theorem bad_walk (s : ByteArray) (p : Nat) (w : World) (hT : Lib.Utf8Tabs 4 5 w) (hp : p ≤ s.size) : Calls Tryd.prog 55 #[.string s, .int .i64 p] w fun e w' => e = .returned (.bool (badB s p)) ∧ Below w.heap.size w w' := by
  have t9 := Tryd.underlying9; have a9 := Tryd.isAgg9; have z9 := Tryd.sizeOf9; have v9 := Tryd.zeroValue9; have u9 := run_underlying Tryd.underlying9
  have t3 := Tryd.underlying3; have a3 := Tryd.isAgg3; have z3 := Tryd.sizeOf3; have v3 := Tryd.zeroValue3; have u3 := run_underlying Tryd.underlying3
  have t21 := Tryd.underlying21; have a21 := Tryd.isAgg21; have z21 := Tryd.sizeOf21; have v21 := Tryd.zeroValue21; have u21 := run_underlying Tryd.underlying21
  have t4 := Tryd.underlying4; have a4 := Tryd.isAgg4; have z4 := Tryd.sizeOf4; have v4 := Tryd.zeroValue4; have u4 := run_underlying Tryd.underlying4
  have t76 := Tryd.underlying143; have a76 := Tryd.isAgg143; have z76 := Tryd.sizeOf143; have u76 := run_underlying Tryd.underlying143
  go_enter Tryd.func55, Tryd.ntmps55
  go_wp2_with (go_at_call 67; refine (Tryd.utf8_DecodeRuneInString _ _ hT).mono ?_)
  rintro e W1 ⟨rfl, b1⟩
  go_wp2
  all_goals go_ret
  all_goals refine ⟨?_, b1⟩
  all_goals simp_all [badB]
theorem tabs_below {w w' : World} (h : Lib.Utf8Tabs 4 5 w) (hb : Below w.heap.size w w') : Lib.Utf8Tabs 4 5 w' := by
  have key : ∀ (g o : Nat) (v : Value), w.cell? ⟨g, o, none⟩ = some v → w'.cell? ⟨g, o, none⟩ = some v := fun g o v hv => by
    have hlt : g < w.heap.size := by
      rcases Nat.lt_or_ge g w.heap.size with h1 | h1
      · exact h1
      · simp [World.cell?, Array.getElem?_eq_none h1] at hv
    obtain ⟨_, _, _, _, h5⟩ := hb
    have := h5 g hlt
    unfold World.cell? at hv ⊢
    rw [this]
    exact hv
  exact ⟨fun c hc => key _ _ _ (h.1 c hc), fun i hi => ⟨key _ _ _ (h.2 i hi).1, key _ _ _ (h.2 i hi).2⟩⟩
def plainF (s : ByteArray) : Nat → Nat → Int × Bool
  | 0, _ => (0, true)
  | f + 1, p => if p < s.size then (if ctlB ((Utf8.decode s p).1 : Int) || (decide (((Utf8.decode s p).1 : Int) = 65533) && badB s p) then ((p : Int), false) else plainF s f (p + (Utf8.decode s p).2)) else (0, true)
theorem plainF_end (s : ByteArray) (f p : Nat) (h : ¬ p < s.size) : plainF s f p = (0, true) := by
  cases f with
  | zero => rfl
  | succ f => simp [plainF, h]
set_option maxHeartbeats 4000000 in
set_option maxRecDepth 1000000 in
theorem plain_walk (s : ByteArray) (w : World) (hT : Lib.Utf8Tabs 4 5 w) (hs : s.size ≤ 140737488355328) :
    Calls Tryd.prog 46 #[.string s] w fun e w' => e = .returned (.tuple #[.int .i64 (plainF s s.size 0).1, .bool (plainF s s.size 0).2]) ∧ Below w.heap.size w w' := by
  have t9 := Tryd.underlying9; have a9 := Tryd.isAgg9; have z9 := Tryd.sizeOf9; have v9 := Tryd.zeroValue9; have u9 := run_underlying Tryd.underlying9
  have t3 := Tryd.underlying3; have a3 := Tryd.isAgg3; have z3 := Tryd.sizeOf3; have v3 := Tryd.zeroValue3; have u3 := run_underlying Tryd.underlying3
  have t21 := Tryd.underlying21; have a21 := Tryd.isAgg21; have z21 := Tryd.sizeOf21; have v21 := Tryd.zeroValue21; have u21 := run_underlying Tryd.underlying21
  have t4 := Tryd.underlying4; have a4 := Tryd.isAgg4; have z4 := Tryd.sizeOf4; have v4 := Tryd.zeroValue4; have u4 := run_underlying Tryd.underlying4
  go_enter Tryd.func46, Tryd.ntmps46
  go_wp2
  go_loopw [] (fun wr => ∃ (pos fuel : Nat), wr.heap[w.heap.size]? = some (.stringIter s pos) ∧ Below w.heap.size w wr ∧ plainF s fuel pos = plainF s s.size 0 ∧ s.size ≤ pos + fuel) (fun wr => s.size - wr.iterPos w.heap.size)
  case atStart =>
    refine ⟨0, s.size, ?_, (Below.refl _ w).alloc (Nat.le_refl _) _, rfl, by omega⟩
    exact World.iter_heap w s 0
  case round =>
    obtain ⟨pos, fuel, hit, hbw, hacc, hfu⟩ := hrel
    by_cases hp : pos < s.size
    · have hnx : ∀ ty, (Instr.next (.pointer (some ⟨w.heap.size, 0, none⟩)) true ty).run Tryd.prog wr = _ := fun ty => Lib.run_next_any_at wr w.heap.size s pos ty hit hp
      have hwd := Lib.width_pos s pos
      have hit2 := Lib.iterAt_heap wr w.heap.size s pos (pos + (Utf8.decode s pos).2) hit
      have hbw2 := Lib.below_iterAt hbw (k := w.heap.size) (by omega) s (pos + (Utf8.decode s pos).2)
      have hTb := tabs_below hT hbw2
      obtain ⟨f, rfl⟩ : ∃ f, fuel = f + 1 := ⟨fuel - 1, by omega⟩
      cases hc : ctlB ((Utf8.decode s pos).1 : Int) with
      | true =>
        have hF : plainF s s.size 0 = ((pos : Int), false) := by rw [← hacc]; simp [plainF, hp, hc]
        go_wp2_with (go_at_call 54; refine (control_walk _ _).mono ?_)
        rintro e W1 ⟨rfl, rfl⟩
        rw [hc]
        go_wp2
        go_ret2
        rw [hF]
        exact ⟨rfl, hbw2⟩
      | false =>
        go_wp2_with (go_at_call 54; refine (control_walk _ _).mono ?_)
        rintro e W1 ⟨rfl, rfl⟩
        rw [hc]
        by_cases hr : ((Utf8.decode s pos).1 : Int) = 65533
        · cases hbd : badB s pos with
          | true =>
            have hF : plainF s s.size 0 = ((pos : Int), false) := by rw [← hacc]; simp [plainF, hp, hc, hr, hbd]
            go_wp2_with (go_at_call 55; refine (bad_walk s pos _ hTb (Nat.le_of_lt hp)).mono ?_)
            rintro e W2 ⟨rfl, b2⟩
            have b3 : Below w.heap.size _ W2 := (by obtain ⟨h1, h2, h3, h4, h5⟩ := b2; exact ⟨h1, h2, h3, h4, fun j hj => h5 j (Nat.lt_of_lt_of_le hj hbw2.size)⟩ : Below w.heap.size (wr.iterAt w.heap.size s (pos + (Utf8.decode s pos).2)) W2)
            rw [hbd]
            go_wp2
            go_ret2
            rw [hF]
            exact ⟨rfl, hbw2.trans b3⟩
          | false =>
            go_wp2_with (go_at_call 55; refine (bad_walk s pos _ hTb (Nat.le_of_lt hp)).mono ?_)
            rintro e W2 ⟨rfl, b2⟩
            have b3 : Below w.heap.size _ W2 := (by obtain ⟨h1, h2, h3, h4, h5⟩ := b2; exact ⟨h1, h2, h3, h4, fun j hj => h5 j (Nat.lt_of_lt_of_le hj hbw2.size)⟩ : Below w.heap.size (wr.iterAt w.heap.size s (pos + (Utf8.decode s pos).2)) W2)
            rw [hbd]
            have hit3 : W2.heap[w.heap.size]? = some (.stringIter s (pos + (Utf8.decode s pos).2)) := by
              obtain ⟨_, _, _, _, h5⟩ := b2
              rw [h5 _ (Array.getElem?_eq_some_iff.1 hit2).1]
              exact hit2
            go_wp2
            go_roundw
            case rel =>
              exact ⟨pos + (Utf8.decode s pos).2, f, hit3, hbw2.trans b3, by rw [← hacc]; simp [plainF, hp, hc, hbd], by omega⟩
            case measure =>
              simp only [World.iterPos, hit3, hit]
              omega
        · go_wp2
          go_roundw
          case rel =>
            exact ⟨pos + (Utf8.decode s pos).2, f, hit2, hbw2, by rw [← hacc]; simp [plainF, hp, hc, hr], by omega⟩
          case measure =>
            simp only [World.iterPos, hit2, hit]
            omega
    · have hnx : ∀ ty, (Instr.next (.pointer (some ⟨w.heap.size, 0, none⟩)) true ty).run Tryd.prog wr = _ := fun ty => Lib.run_next_end_at wr w.heap.size s pos ty hit hp
      go_wp2
      go_ret2
      rw [plainF_end s fuel pos hp] at hacc
      rw [← hacc]
      exact ⟨rfl, hbw⟩
end Go.Fn
/- text.Fold, walked. -/

namespace Go.Fn
open Go Go.Proofs Go.Shelf Go.RowKit

def smallZ (r : Int) : Int := if (65 ≤ r ∧ r ≤ 90) ∨ (192 ≤ r ∧ r ≤ 222 ∧ r ≠ 215) ∨ (913 ≤ r ∧ r ≤ 937 ∧ r ≠ 930) ∨ (1040 ≤ r ∧ r ≤ 1071) then r + 32 else if 1024 ≤ r ∧ r ≤ 1039 then r + 80 else r
set_option maxHeartbeats 4000000 in
set_option maxRecDepth 100000 in
theorem small_walk (r : Int) (w : World) : Calls Tryd.prog 80 #[.int .i32 r] w fun e w' => e = .returned (.int .i32 (smallZ r)) ∧ w' = w := by
  have t21 := Tryd.underlying21; have a21 := Tryd.isAgg21; have z21 := Tryd.sizeOf21; have v21 := Tryd.zeroValue21; have u21 := run_underlying Tryd.underlying21
  have t4 := Tryd.underlying4; have a4 := Tryd.isAgg4; have z4 := Tryd.sizeOf4; have v4 := Tryd.zeroValue4; have u4 := run_underlying Tryd.underlying4
  go_enter Tryd.func80, Tryd.ntmps80
  go_wp2
  all_goals go_ret
  all_goals refine ⟨?_, rfl⟩
  all_goals (unfold smallZ; first | (simp_all; done) | (split <;> first | (simp_all; done) | omega | (split <;> first | (simp_all; done) | omega)))
theorem dcZ_le (s : ByteArray) (p : Nat) : (Lib.decodeGo (s.extract p s.size)).1 ≤ 2147483647 := by
  unfold Lib.decodeGo
  split
  · show (65533 : Nat) ≤ _
    omega
  · exact decode_le _ _
theorem dcZ_pos (s : ByteArray) (p : Nat) (h : p < s.size) : 1 ≤ (Lib.decodeGo (s.extract p s.size)).2 := by
  unfold Lib.decodeGo
  rw [if_neg (by rw [ByteArray.size_extract]; omega)]
  exact Lib.width_pos _ _
theorem dcZ_le4 (s : ByteArray) (p : Nat) : (Lib.decodeGo (s.extract p s.size)).2 ≤ 4 := by
  unfold Lib.decodeGo
  split
  · show (0 : Nat) ≤ _
    omega
  · rw [Lib.decode_at]
    unfold Lib.decodeN
    repeat' split
    all_goals simp
theorem smallZ_bounds (r : Nat) (h : r ≤ 2147483647) : -2147483648 ≤ smallZ r ∧ smallZ r ≤ 2147483647 := by
  unfold smallZ
  split
  · omega
  · split <;> omega
def foldF (s : ByteArray) : Nat → Nat → Bool → List UInt8 → List UInt8
  | 0, _, _, a => a
  | f + 1, p, wt, a => if h : p < s.size then
      (if ((Lib.decodeGo (s.extract p s.size)).1 : Int) = 32 then foldF s f (p + 1) (decide (0 < a.length)) a
      else foldF s f (p + (Lib.decodeGo (s.extract p s.size)).2) false ((if wt then a ++ [32] else a) ++ (if ((Lib.decodeGo (s.extract p s.size)).1 : Int) = 65533 ∧ ((Lib.decodeGo (s.extract p s.size)).2 : Int) = 1 then [s[p]'h] else Lib.encodeRune (smallZ (Lib.decodeGo (s.extract p s.size)).1))))
    else a
theorem foldF_end (s : ByteArray) (f p : Nat) (wt : Bool) (a : List UInt8) (h : ¬ p < s.size) : foldF s f p wt a = a := by
  cases f with
  | zero => rfl
  | succ f => simp [foldF, h]
theorem bldAt_below {T e : TypeId} {B b : Nat} {p : Value} {bs : List Value} {W W' : World} (h : Lib.BuilderAtF T e B b p bs W) (hb : Below W.heap.size W W') : Lib.BuilderAtF T e B b p bs W' := by
  have hlt := h.lt
  obtain ⟨hB, v, hv, hown, hne⟩ := h
  exact ⟨hB, v, (hb.block b hlt).trans hv, hown.kept (row := none) ⟨hb.os, hb.tape, hb.output, hb.size, fun k hk _ => hb.block k hk⟩ (Classical.em _), hne⟩
theorem bld_below {T e : TypeId} {B b : Nat} {bs : List Value} {W W' : World} (h : Lib.IsBuilderF T e B b bs W) (hb : Below W.heap.size W W') : Lib.IsBuilderF T e B b bs W' :=
  h.elim (fun x => .inl (bldAt_below x hb)) (fun x => .inr (bldAt_below x hb))
theorem below_down {k : Nat} {w w' : World} (hk : k ≤ w.heap.size) (hb : Below w.heap.size w w') : Below k w w' := by
  obtain ⟨h1, h2, h3, h4, h5⟩ := hb
  exact ⟨h1, h2, h3, h4, fun j hj => h5 j (Nat.lt_of_lt_of_le hj hk)⟩
set_option maxHeartbeats 16000000 in
set_option maxRecDepth 1000000 in
theorem fold_walk (s : ByteArray) (w : World) (hT : Lib.Utf8Tabs 4 5 w) (hs : s.size ≤ 8796093022208) :
    Calls Tryd.prog 66 #[.string s] w fun e w' => e = .returned (.string ⟨(foldF s s.size 0 false []).toArray⟩) ∧ Below w.heap.size w w' := by
  have t9 := Tryd.underlying9; have a9 := Tryd.isAgg9; have z9 := Tryd.sizeOf9; have v9 := Tryd.zeroValue9; have u9 := run_underlying Tryd.underlying9
  have t5 := Tryd.underlying5; have a5 := Tryd.isAgg5; have z5 := Tryd.sizeOf5; have v5 := Tryd.zeroValue5; have u5 := run_underlying Tryd.underlying5
  have t3 := Tryd.underlying3; have a3 := Tryd.isAgg3; have z3 := Tryd.sizeOf3; have v3 := Tryd.zeroValue3; have u3 := run_underlying Tryd.underlying3
  have t4 := Tryd.underlying4; have a4 := Tryd.isAgg4; have z4 := Tryd.sizeOf4; have v4 := Tryd.zeroValue4; have u4 := run_underlying Tryd.underlying4
  have t21 := Tryd.underlying21; have a21 := Tryd.isAgg21; have z21 := Tryd.sizeOf21; have v21 := Tryd.zeroValue21; have u21 := run_underlying Tryd.underlying21
  have t161 := Tryd.underlying161; have a161 := Tryd.isAgg161; have z161 := Tryd.sizeOf161; have v161 := Tryd.zeroValue161; have u161 := run_underlying Tryd.underlying161
  have t143 := Tryd.underlying143; have a143 := Tryd.isAgg143; have z143 := Tryd.sizeOf143; have u143 := run_underlying Tryd.underlying143
  go_enter Tryd.func66, Tryd.ntmps66
  go_wp2
  go_loopw [4, 5] (fun wt i wr => ∃ (p f : Nat) (b : Bool) (a : List UInt8), wt = .bool b ∧ i = .int .i64 p ∧ Lib.IsBuilderF 161 5 w.heap.size w.heap.size (Lib.byteCells a) wr ∧ Below w.heap.size w wr ∧ foldF s f p b a = foldF s s.size 0 false [] ∧ s.size ≤ p + f ∧ a.length ≤ 5 * p ∧ p ≤ s.size + 4) (fun _ i _ => s.size + 4 - (Go.RowKit.intOf i).toNat)
  case atStart => exact ⟨0, s.size, false, [], rfl, rfl, Lib.IsBuilderF.of (Lib.fresh_isBuilder 161 5 w), (Below.refl _ w).alloc (Nat.le_refl _) _, rfl, by omega, by simp, by omega⟩
  case round =>
    obtain ⟨p, f, b, a, rfl, rfl, hI, hbw, hacc, hfu, hal, hps⟩ := hrel
    have hsz : w.heap.size ≤ wr.heap.size := hbw.size
    have hTb := tabs_below hT hbw
    by_cases hlt : p < s.size
    · have hd1 := dcZ_le s p
      have hd2 := dcZ_pos s p hlt
      have hd4 := dcZ_le4 s p
      obtain ⟨f, rfl⟩ : ∃ f', f = f' + 1 := ⟨f - 1, by omega⟩
      rw [foldF, dif_pos hlt] at hacc
      have hsm := smallZ_bounds _ hd1
      have hrl := Lib.runeCells_le (smallZ (Lib.decodeGo (s.extract p s.size)).1)
      have hrl2 := Lib.runeCells_length (smallZ (Lib.decodeGo (s.extract p s.size)).1)
      go_wp2_with (go_at_call 67; refine (Tryd.utf8_DecodeRuneInString _ _ hTb).mono ?_)
      rintro e W1 ⟨rfl, b1⟩
      have hI1 := bld_below hI b1
      have hw1 := hbw.trans (below_down hsz b1)
      have hs1 : w.heap.size ≤ W1.heap.size := Nat.le_trans hsz b1.size
      generalize Lib.decodeGo (s.extract p s.size) = d at *
      by_cases h32 : (d.1 : Int) = 32
      · rw [if_pos h32] at hacc
        rw [h32]
        go_wp2_with (go_at_call 77; refine (Tryd.Builder_Len_f w.heap.size w.heap.size _ _ hI1).mono ?_)
        rintro e W2 ⟨rfl, rfl⟩
        go_wp2
        go_roundw
        case rel =>
          refine ⟨p + 1, f, decide (0 < a.length), a, ?_, by go_num, hI1, hw1, hacc, by omega, by omega, by omega⟩
          rw [Lib.byteCells_length]
        case measure => simp [Go.RowKit.intOf]; omega
      · rw [if_neg h32] at hacc
        cases b with
        | true =>
          simp only [if_true] at hacc
          go_wp2_with (go_at_call 78; refine (wb_k w.heap.size w.heap.size _ 32 _ hI1 (by rw [Lib.byteCells_length]; omega) hs1).mono ?_)
          rintro e W2 ⟨rfl, h2, b2⟩
          have hI2 : Lib.IsBuilderF 161 5 w.heap.size w.heap.size (Lib.byteCells (a ++ [32])) W2 := Or.inr (by simpa [Lib.byteCells_append, Lib.byteCells] using h2)
          have hs2 : w.heap.size ≤ W2.heap.size := Nat.le_trans hs1 b2.size
          have hw2 := hw1.trans b2
          by_cases h65 : (d.1 : Int) = 65533
          · by_cases h1n : (d.2 : Int) = 1
            · rw [if_pos (show (d.1 : Int) = 65533 ∧ (d.2 : Int) = 1 from ⟨h65, h1n⟩)] at hacc
              go_wp2_with (go_at_call 78; refine (wb_k w.heap.size w.heap.size _ _ _ hI2 (by simp only [Lib.byteCells_length, List.length_append, List.length_cons, List.length_nil]; omega) hs2).mono ?_)
              rintro e W3 ⟨rfl, h3, b3⟩
              go_wp2
              go_roundw
              case rel =>
                refine ⟨p + d.2, f, false, (a ++ [32]) ++ [s[p]'hlt], rfl, ?_, Or.inr (by simpa [Lib.byteCells_append, Lib.byteCells] using h3), hw2.trans b3, hacc, by omega, by simp only [List.length_append, List.length_cons, List.length_nil]; omega, by omega⟩
                first | go_num | (rw [h1n]; go_num) | skip
              case measure => simp [Go.RowKit.intOf]; omega
            · rw [if_neg (show ¬ ((d.1 : Int) = 65533 ∧ (d.2 : Int) = 1) from fun h => h1n h.2)] at hacc
              go_wp2_with (go_at_call 80; refine (small_walk _ _).mono ?_)
              rintro e W3 ⟨rfl, rfl⟩
              rw [h65] at hsm hrl hrl2 hacc
              generalize smallZ 65533 = z at *
              go_wp2_with (go_at_call 79; refine (wr_k w.heap.size w.heap.size _ z hsm.1 hsm.2 _ hI2 (by simp only [Lib.byteCells_length, List.length_append, List.length_cons, List.length_nil]; omega) hs2).mono ?_)
              rintro e W4 ⟨rfl, h4, b4⟩
              go_wp2
              go_roundw
              case rel =>
                refine ⟨p + d.2, f, false, (a ++ [32]) ++ Lib.encodeRune z, rfl, ?_, Or.inr (by rw [Lib.byteCells_append, Lib.byteCells_encodeRune]; exact h4), hw2.trans b4, hacc, by omega, ?_, by omega⟩
                · first | go_num | skip
                · simp only [List.length_append, List.length_cons, List.length_nil]
                  omega
              case measure => simp [Go.RowKit.intOf]; omega
          · rw [if_neg (show ¬ ((d.1 : Int) = 65533 ∧ (d.2 : Int) = 1) from fun h => h65 h.1)] at hacc
            go_wp2_with (go_at_call 80; refine (small_walk _ _).mono ?_)
            rintro e W3 ⟨rfl, rfl⟩
            generalize smallZ (d.1 : Int) = z at *
            go_wp2_with (go_at_call 79; refine (wr_k w.heap.size w.heap.size _ z hsm.1 hsm.2 _ hI2 (by simp only [Lib.byteCells_length, List.length_append, List.length_cons, List.length_nil]; omega) hs2).mono ?_)
            rintro e W4 ⟨rfl, h4, b4⟩
            go_wp2
            go_roundw
            case rel =>
              refine ⟨p + d.2, f, false, (a ++ [32]) ++ Lib.encodeRune z, rfl, ?_, Or.inr (by rw [Lib.byteCells_append, Lib.byteCells_encodeRune]; exact h4), hw2.trans b4, hacc, by omega, ?_, by omega⟩
              · first | go_num | skip
              · simp only [List.length_append, List.length_cons, List.length_nil]
                omega
            case measure => simp [Go.RowKit.intOf]; omega
        | false =>
          simp only [Bool.false_eq_true, if_false] at hacc
          by_cases h65 : (d.1 : Int) = 65533
          · by_cases h1n : (d.2 : Int) = 1
            · rw [if_pos (show (d.1 : Int) = 65533 ∧ (d.2 : Int) = 1 from ⟨h65, h1n⟩)] at hacc
              go_wp2_with (go_at_call 78; refine (wb_k w.heap.size w.heap.size _ _ _ hI1 (by simp only [Lib.byteCells_length, List.length_append, List.length_cons, List.length_nil]; omega) hs1).mono ?_)
              rintro e W3 ⟨rfl, h3, b3⟩
              go_wp2
              go_roundw
              case rel =>
                refine ⟨p + d.2, f, false, (a) ++ [s[p]'hlt], rfl, ?_, Or.inr (by simpa [Lib.byteCells_append, Lib.byteCells] using h3), hw1.trans b3, hacc, by omega, by simp only [List.length_append, List.length_cons, List.length_nil]; omega, by omega⟩
                first | go_num | (rw [h1n]; go_num) | skip
              case measure => simp [Go.RowKit.intOf]; omega
            · rw [if_neg (show ¬ ((d.1 : Int) = 65533 ∧ (d.2 : Int) = 1) from fun h => h1n h.2)] at hacc
              go_wp2_with (go_at_call 80; refine (small_walk _ _).mono ?_)
              rintro e W3 ⟨rfl, rfl⟩
              rw [h65] at hsm hrl hrl2 hacc
              generalize smallZ 65533 = z at *
              go_wp2_with (go_at_call 79; refine (wr_k w.heap.size w.heap.size _ z hsm.1 hsm.2 _ hI1 (by simp only [Lib.byteCells_length, List.length_append, List.length_cons, List.length_nil]; omega) hs1).mono ?_)
              rintro e W4 ⟨rfl, h4, b4⟩
              go_wp2
              go_roundw
              case rel =>
                refine ⟨p + d.2, f, false, (a) ++ Lib.encodeRune z, rfl, ?_, Or.inr (by rw [Lib.byteCells_append, Lib.byteCells_encodeRune]; exact h4), hw1.trans b4, hacc, by omega, ?_, by omega⟩
                · first | go_num | skip
                · simp only [List.length_append, List.length_cons, List.length_nil]
                  omega
              case measure => simp [Go.RowKit.intOf]; omega
          · rw [if_neg (show ¬ ((d.1 : Int) = 65533 ∧ (d.2 : Int) = 1) from fun h => h65 h.1)] at hacc
            go_wp2_with (go_at_call 80; refine (small_walk _ _).mono ?_)
            rintro e W3 ⟨rfl, rfl⟩
            generalize smallZ (d.1 : Int) = z at *
            go_wp2_with (go_at_call 79; refine (wr_k w.heap.size w.heap.size _ z hsm.1 hsm.2 _ hI1 (by simp only [Lib.byteCells_length, List.length_append, List.length_cons, List.length_nil]; omega) hs1).mono ?_)
            rintro e W4 ⟨rfl, h4, b4⟩
            go_wp2
            go_roundw
            case rel =>
              refine ⟨p + d.2, f, false, (a) ++ Lib.encodeRune z, rfl, ?_, Or.inr (by rw [Lib.byteCells_append, Lib.byteCells_encodeRune]; exact h4), hw1.trans b4, hacc, by omega, ?_, by omega⟩
              · first | go_num | skip
              · simp only [List.length_append, List.length_cons, List.length_nil]
                omega
            case measure => simp [Go.RowKit.intOf]; omega
    · go_wp2_with (go_at_call 81; refine (Tryd.Builder_String_any_k w.heap.size w.heap.size _ _ hI hsz).mono ?_)
      rintro e W1 ⟨rfl, _, b1, _⟩
      rw [foldF_end s f p b a hlt] at hacc
      subst hacc
      go_wp2
      go_ret
      exact ⟨rfl, hbw.trans b1⟩
end Go.Fn
/-
  From a contract of the library to an entry.
-/
namespace Go.Lf
open Go Go.Eng Go.RowKit

theorem argsR_gs {φ : Phi} {ps : List Par} {z : prodT (ps.map Par.ty)} {vals : List Value} {gs : List (Nat × Nat)} {hs : List Chunk} (h : ArgsR φ ps z vals gs hs) (ho : outs ps = []) : gs = [] := by
  induction h with
  | nil => rfl
  | val _ _ _ ih => exact ih ho
  | cfn _ ih => exact ih ho
  | obj _ _ _ => simp [outs] at ho
theorem hb_below {C : Cx} {w w' : World} {I : World → Prop} (hb : Hb C w [] I) (h : Below w.heap.size w w') : Hb C w' [] I :=
  hb.grow ⟨h.os, h.tape, h.output, h.size, fun k hk _ _ => h.block k hk, fun k m hk _ _ => Same.of_block (h.block k hk), fun c hc => (by cases hc)⟩
section
variable {P : Program} {G : World → Prop} {f : Nat} {ps : List Par} {rs : List Ty} {F : prodT (ps.map Par.ty) → Option (prodT (rs ++ outs ps))}
theorem drop_obs (ho : outs ps = []) (r : prodT (rs ++ outs ps)) : (unProd (rs ++ outs ps) r).drop rs.length = [] := by
  refine List.drop_eq_nil_of_le ?_
  have := congrArg List.length (unProd_tys (rs ++ outs ps) r)
  simp [ho] at this
  omega
/-- results that lean on no memory -/
theorem ent_calls (go : GoFn P f) (top : ∀ t, Par.val t ∈ ps → t.top = true) (ho : outs ps = [])
    (h : ∀ z r w φ vals gs hs, F z = some r → G w → ArgsR φ ps z vals gs hs → Calls P f vals.toArray w fun e w' => (∃ vs, e = .returned (resVal vs) ∧ TupR φ ((unProd (rs ++ outs ps) r).take rs.length) vs []) ∧ Below w.heap.size w w') : EntryOk P G f ⟨ps, rs, F⟩ := by
  refine ⟨go, top, fun z r hz C φ vals gs hs ha hb => ?_⟩
  have hb0 : Hb C C.w0 [] (Inv G φ) := (Sub.nil hs).hb hb
  refine (h z r C.w0 φ vals gs hs hz hb.get.1 ha).mono ?_
  rintro e w' ⟨⟨vs, rfl, ht⟩, hbl⟩
  have hg := argsR_gs ha ho
  subst hg
  refine ⟨_, φ, [], [], rfl, φ.le_refl, hb_below hb0 hbl, ⟨vs, ht, rfl⟩, ?_⟩
  rw [drop_obs ho]
  exact .nil
/-- one result: a new slice -/
theorem ent_row {t : Ty} {el : Nat} {F : prodT (ps.map Par.ty) → Option (prodT ([.sl t] ++ outs ps))} (go : GoFn P f) (top : ∀ t, Par.val t ∈ ps → t.top = true) (ho : outs ps = [])
    (h : ∀ z r w φ vals gs hs, F z = some r → G w → ArgsR φ ps z vals gs hs → Calls P f vals.toArray w fun e w' => (∃ (l : List t.den) (A : Addr) (css : List (List Value)), (unProd ([.sl t] ++ outs ps) r).take 1 = [⟨.sl t, l⟩] ∧ e = .returned (.slice (some A) l.length l.length) ∧ All2 (fun x cs => Rp φ t x cs []) l css ∧
      w'.ownsRow w.heap.size el t.size (.slice (some A) l.length l.length) l.length css.flatten) ∧ Below w.heap.size w w') : EntryOk P G f ⟨ps, [.sl t], F⟩ := by
  refine ⟨go, top, fun z r hz C φ vals gs hs ha hb => ?_⟩
  have hb0 : Hb C C.w0 [] (Inv G φ) := (Sub.nil hs).hb hb
  refine (h z r C.w0 φ vals gs hs hz hb.get.1 ha).mono ?_
  rintro e w' ⟨⟨l, A, css, hl, rfl, hall, hrow⟩, hbl⟩
  have hg := argsR_gs ha ho
  subst hg
  have hlt := World.ownsRow.lt hrow
  have hb1 : Hb C w' [.row false (.slice (some A) l.length l.length) el t.size l.length css.flatten] (Inv G φ) := by
    refine hb0.step ⟨hbl.os, hbl.tape, hbl.output, hbl.size, fun k hk _ _ => hbl.block k hk, fun k m hk _ _ => Same.of_block (hbl.block k hk), fun c hc => (by cases hc)⟩ (fun c hc => ?_) (fun c hc g hg => ?_) ?_ fun c hc => (by cases hc)
    · have : c = _ := List.mem_singleton.1 hc
      subst this
      refine ⟨hrow.1, ?_⟩
      rcases hrow.2 with h2 | ⟨g, cap, cur, hv, hg, r⟩
      · exact .inl h2
      · exact .inr ⟨g, cap, cur, hv, Nat.zero_le _, r⟩
    · have : c = _ := List.mem_singleton.1 hc
      subst this
      exact .inr (hlt g hg).1
    · exact List.pairwise_singleton _ _
  obtain ⟨φ', f1, f2, f3⟩ := freeze_row hb1
  refine ⟨_, φ', [], [], rfl, f1, f3, ⟨[.slice (some A) l.length l.length], ?_, rfl⟩, ?_⟩
  · show TupR φ' ((unProd ([.sl t] ++ outs ps) r).take 1) _ _
    rw [hl]
    exact TupR.cons (t := .sl t) (x := l) (cs := [.slice (some A) l.length l.length]) (h := []) (hs := []) rfl ⟨some A, l.length, css, rfl, Nat.le_refl _, hall.imp fun _ _ h => h.mono f1, f2, rfl⟩ .nil
  · have : (unProd ([.sl t] ++ outs ps) r).drop ([Ty.sl t]).length = [] := drop_obs (rs := [.sl t]) ho r
    show ObsR φ' [] ((unProd ([.sl t] ++ outs ps) r).drop ([Ty.sl t]).length) []
    rw [this]
    exact .nil
end
end Go.Lf
/- The library's functions, as entries. -/
namespace Go.Fn
open Go Go.Lf Go.Eng Go.RowKit Go.Proofs Go.Shelf

/-- what the world holds -/
def GG (w : World) : Prop := Lib.TabIs Tryd.prog w "internal/strconv.uint64pow10" .u64 Lib.pow10Tab ∧ w.ShapedOpen Tryd.prog ∧ (∃ t p, w.var? Tryd.prog "strconv.ErrSyntax" = some #[.iface t p]) ∧ (∃ t p, w.var? Tryd.prog "strconv.ErrRange" = some #[.iface t p]) ∧ Lib.Utf8Tabs 4 5 w

def strconv_Itoa (n : Int) : Option (List UInt8) := if -9223372036854775808 ≤ n ∧ n ≤ 9223372036854775807 then some (Lib.itoa n) else none
def strconv_Atoi (s : List UInt8) : Option (Int × Option Unit) := if s.length ≤ 140737488355328 then some (match Lib.atoiAll s with | .ok v => (v, none) | .range => (Lib.atoiSat s, some ()) | _ => (0, some ())) else none
def strings_Cut (s t : List UInt8) : Option (List UInt8 × List UInt8 × Bool) := if s.length < 4294967281 then some (Lib.cut s t) else none
def strings_FieldsFunc (s : List UInt8) (_ : Unit) : Option (List (List UInt8)) := if s.length ≤ 4294967296 then some ((Lib.goFieldsP (fun r => decide ((r : Int) = 32)) ⟨s.toArray⟩).map (·.data.toList)) else none
def strconv_ItoaEnt : Nat × Entry := (43, ⟨[.val (.int .i64)], [.str], fun z => strconv_Itoa z⟩)
def strconv_AtoiEnt : Nat × Entry := (42, ⟨[.val .str], [.int .i64, .eb 138 .unit], fun z => strconv_Atoi z⟩)
def strings_CutEnt : Nat × Entry := (25, ⟨[.val .str, .val .str], [.str, .str, .bool], fun z => strings_Cut z.1 z.2⟩)
def strings_FieldsFuncEnt : Nat × Entry := (23, ⟨[.val .str, .cfn 24], [.sl .str], fun z => strings_FieldsFunc z.1 z.2⟩)

theorem below_growN {w : World} (k : Nat) (os : Array Obj) : Below w.heap.size w (Go.Sort.grow (w.drewN k) os) :=
  ⟨rfl, rfl, rfl, by show w.heap.size ≤ (w.heap ++ os).size; rw [Array.size_append]; omega, fun j hj => Go.Sort.heap_grow_old (w.drewN k) os hj⟩
theorem below_drawn {w : World} (n : Nat) : Below w.heap.size w (w.drewN n) := ⟨rfl, rfl, rfl, Nat.le_refl _, fun _ _ => rfl⟩

theorem strconv_Itoa_ok : EntryOk Tryd.prog GG 43 strconv_ItoaEnt.2 := by
  refine ent_calls (ps := [.val (.int .i64)]) (rs := [.str]) (GoFn.mk Tryd.f43 (by kernel_rfl) (by kernel_rfl) (by kernel_rfl)) (by simp [Ty.top]) rfl fun z r w φ vals gs hs hz hG ha => ?_
  have hz : strconv_Itoa z = some r := hz
  unfold strconv_Itoa at hz
  split at hz
  case isFalse => cases hz
  case isTrue h01 =>
  injection hz with hz
  subst hz
  cases ha with
  | val h1 h2 h3 =>
  cases h3
  obtain ⟨rfl, _⟩ := h2
  refine (Tryd.strconv_Itoa z h01.1 h01.2 w hG.1).mono ?_
  rintro e w' ⟨rfl, k, os, rfl⟩
  exact ⟨⟨[Eng.str (Lib.itoa z)], rfl, TupR.cons (t := .str) (x := Lib.itoa z) (cs := [_]) (h := []) (hs := []) rfl ⟨rfl, rfl⟩ .nil⟩, below_growN k os⟩
theorem strings_Cut_ok : EntryOk Tryd.prog GG 25 strings_CutEnt.2 := by
  refine ent_calls (ps := [.val .str, .val .str]) (rs := [.str, .str, .bool]) (GoFn.mk Tryd.f25 (by kernel_rfl) (by kernel_rfl) (by kernel_rfl)) (by simp [Ty.top]) rfl fun z r w φ vals gs hs hz hG ha => ?_
  have hz : strings_Cut z.1 z.2 = some r := hz
  unfold strings_Cut at hz
  split at hz
  case isFalse => cases hz
  case isTrue h01 =>
  injection hz with hz
  subst hz
  cases ha with
  | val h1 h2 h3 =>
  cases h3 with
  | val h4 h5 h6 =>
  cases h6
  obtain ⟨rfl, _⟩ := h2
  obtain ⟨rfl, _⟩ := h5
  obtain ⟨s, t⟩ := z
  have h01 : s.length < 4294967281 := h01
  refine (Tryd.strings_Cut_shaped ⟨s.toArray⟩ ⟨t.toArray⟩ w hG.2.1 (Nat.lt_of_le_of_lt (Nat.le_of_eq (Eng.str_size s)) h01)).mono ?_
  rintro e w' ⟨rfl, n, rfl⟩
  refine ⟨⟨[Eng.str (Lib.cut s t).1, Eng.str (Lib.cut s t).2.1, .bool (Lib.cut s t).2.2], rfl, ?_⟩, below_drawn n⟩
  exact TupR.cons (t := .str) (cs := [_]) (h := []) (hs := []) rfl ⟨rfl, rfl⟩ (TupR.cons (t := .str) (cs := [_]) (h := []) (hs := []) rfl ⟨rfl, rfl⟩ (TupR.cons (t := .bool) (cs := [_]) (h := []) (hs := []) rfl ⟨rfl, rfl⟩ .nil))
theorem strconv_Atoi_ok : EntryOk Tryd.prog GG 42 strconv_AtoiEnt.2 := by
  refine ent_calls (ps := [.val .str]) (rs := [.int .i64, .eb 138 .unit]) (GoFn.mk Tryd.f42 (by kernel_rfl) (by kernel_rfl) (by kernel_rfl)) (by simp [Ty.top]) rfl fun z r w φ vals gs hs hz hG ha => ?_
  have hz : strconv_Atoi z = some r := hz
  unfold strconv_Atoi at hz
  split at hz
  case isFalse => cases hz
  case isTrue h01 =>
  injection hz with hz
  cases ha with
  | val h1 h2 h3 =>
  cases h3
  obtain ⟨rfl, _⟩ := h2
  have hsz : (⟨List.toArray z⟩ : ByteArray).size ≤ 140737488355328 := Nat.le_trans (Nat.le_of_eq (Eng.str_size z)) h01
  obtain ⟨t1, p1, hv1⟩ := hG.2.2.1
  obtain ⟨t2, p2, hv2⟩ := hG.2.2.2.1
  have err : ∀ (n : Int) (N : Nat), TupR φ [⟨.int .i64, n⟩, ⟨.eb 138 .unit, some ()⟩] [.int .i64 n, .iface 138 (.pointer (some ⟨N, 0, none⟩))] [] := fun n N =>
    TupR.cons (t := .int .i64) (cs := [_]) (h := []) (hs := []) rfl ⟨rfl, rfl⟩ (TupR.cons (t := .eb 138 .unit) (x := some ()) (cs := [.iface 138 (.pointer (some ⟨N, 0, none⟩))]) (h := []) (hs := []) rfl ⟨rfl, ⟨N, 0, none⟩, [], rfl, ⟨rfl, rfl⟩, fun j v hv => by simp at hv⟩ .nil)
  cases h : Lib.atoiAll (show List UInt8 from z)
  · rename_i v
    have hz : (v, none) = r := by rw [show Lib.atoiAll z = _ from h] at hz; exact hz
    subst hz
    refine (Tryd.strconv_Atoi_ok ⟨List.toArray z⟩ (Nat.le_trans hsz (by decide)) v h w).mono ?_
    rintro e w' ⟨rfl, hw⟩
    refine ⟨⟨[.int .i64 v, .nilIface], rfl, TupR.cons (t := .int .i64) (cs := [_]) (h := []) (hs := []) rfl ⟨rfl, rfl⟩ (TupR.cons (t := .eb 138 .unit) (x := none) (cs := [.nilIface]) (h := []) (hs := []) rfl ⟨rfl, rfl⟩ .nil)⟩, ?_⟩
    rcases hw with rfl | ⟨t, rfl⟩
    · exact Below.refl _ _
    · exact Go.Joins.below_bytesWorld _ _ _ _ (Nat.le_refl _)
  · have hz : (0, some ()) = r := by rw [show Lib.atoiAll z = _ from h] at hz; exact hz
    subst hz
    refine (Any.strconv_Atoi_syntax_var Tryd.laysC172 ⟨List.toArray z⟩ (Nat.le_trans hsz (by decide)) h t1 p1 w hv1).mono ?_
    rintro e w' ⟨N, rfl, _, _, hb2⟩
    exact ⟨⟨_, rfl, err 0 N⟩, hb2⟩
  · have hz : (Lib.atoiSat z, some ()) = r := by rw [show Lib.atoiAll z = _ from h] at hz; exact hz
    subst hz
    refine (Tryd.strconv_Atoi_range_var ⟨List.toArray z⟩ (Nat.le_trans hsz (by decide)) h t2 p2 w hv2).mono ?_
    rintro e w' ⟨N, rfl, _, _, hb2⟩
    exact ⟨⟨_, rfl, err _ N⟩, hb2⟩
theorem isBlank (w : World) : PredAt Tryd.prog 24 #[] encR (fun r => decide ((r : Int) = 32)) w := fun W r _ => by
  unfold FnGives
  go_enter Tryd.func24, Tryd.ntmps24
  go_wp2
  go_ret
  exact ⟨rfl, 0, rfl⟩
theorem strings_FieldsFunc_ok : EntryOk Tryd.prog GG 23 strings_FieldsFuncEnt.2 := by
  refine ent_row (ps := [.val .str, .cfn 24]) (t := .str) (el := 9) (GoFn.mk Tryd.f23 (by kernel_rfl) (by kernel_rfl) (by kernel_rfl)) (by simp [Ty.top]) rfl fun z r w φ vals gs hs hz hG ha => ?_
  have hz : strings_FieldsFunc z.1 z.2 = some r := hz
  unfold strings_FieldsFunc at hz
  split at hz
  case isFalse => cases hz
  case isTrue h01 =>
  injection hz with hz
  subst hz
  cases ha with
  | val h1 h2 h3 =>
  cases h3 with
  | cfn h4 =>
  cases h4
  obtain ⟨rfl, _⟩ := h2
  obtain ⟨s, u⟩ := z
  have h01 : s.length ≤ 4294967296 := h01
  refine (Tryd.strings_FieldsFunc 24 #[] (enters_of Tryd.func24 (by kernel_rfl) rfl) _ ⟨s.toArray⟩ w (Nat.le_trans (Nat.le_of_eq (Eng.str_size s)) h01) (isBlank w)).mono ?_
  rintro e w' ⟨A, rfl, _, hrow, hb⟩
  refine ⟨⟨(Lib.goFieldsP (fun r => decide ((r : Int) = 32)) ⟨s.toArray⟩).map (·.data.toList), ⟨A, 0, none⟩, (Lib.goFieldsP (fun r => decide ((r : Int) = 32)) ⟨s.toArray⟩).map (fun b => [Value.string b]), rfl, by rw [List.length_map], ?_, ?_⟩, hb⟩
  · generalize Lib.goFieldsP (fun r => decide ((r : Int) = 32)) ⟨s.toArray⟩ = l
    induction l with
    | nil => exact .nil
    | cons b r ih => exact .cons ⟨by simp [Eng.str], rfl⟩ ih
  · rw [List.length_map]
    have : ((Lib.goFieldsP (fun r => decide ((r : Int) = 32)) ⟨s.toArray⟩).map (fun b => [Value.string b])).flatten = (Lib.goFieldsP (fun r => decide ((r : Int) = 32)) ⟨s.toArray⟩).map Value.string := by
      generalize Lib.goFieldsP (fun r => decide ((r : Int) = 32)) ⟨s.toArray⟩ = l
      induction l with
      | nil => rfl
      | cons b r ih => simp [ih]
    rw [this]
    exact hrow
def text_Plain (a0 : List UInt8) : Option (Int × Bool) := if a0.length ≤ 140737488355328 then some (plainF ⟨a0.toArray⟩ a0.length 0) else none
def text_PlainEnt : Nat × Entry := (46, ⟨[.val .str], [.int .i64, .bool], fun z => text_Plain z⟩)
theorem text_Plain_ok : EntryOk Tryd.prog GG 46 text_PlainEnt.2 := by
  refine ent_calls (ps := [.val .str]) (rs := [.int .i64, .bool]) (GoFn.mk Tryd.f46 (by kernel_rfl) (by kernel_rfl) (by kernel_rfl)) (by simp [Ty.top]) rfl fun (a0 : List UInt8) r w φ vals gs hs hz hG ha => ?_
  have hz : text_Plain a0 = some r := hz
  unfold text_Plain at hz
  split at hz
  case isFalse => cases hz
  case isTrue hC =>
  injection hz with hz
  subst hz
  cases ha with
  | val h01 h02 h03 =>
  cases h03
  obtain ⟨rfl, _⟩ := h02
  refine (plain_walk ⟨a0.toArray⟩ w hG.2.2.2.2 (Nat.le_trans (Nat.le_of_eq (Eng.str_size a0)) hC)).mono ?_
  rintro e w' ⟨rfl, hb⟩
  exact ⟨⟨[.int .i64 ((plainF ⟨a0.toArray⟩ a0.length 0)).1, .bool ((plainF ⟨a0.toArray⟩ a0.length 0)).2], rfl, (TupR.cons (t := .int .i64) (cs := [_]) (h := []) (hs := []) rfl ⟨rfl, rfl⟩ (TupR.cons (t := .bool) (cs := [_]) (h := []) (hs := []) rfl ⟨rfl, rfl⟩ .nil))⟩, hb⟩
def text_Fold (a0 : List UInt8) : Option (List UInt8) := if a0.length ≤ 8796093022208 then some (foldF ⟨a0.toArray⟩ a0.length 0 false []) else none
def text_FoldEnt : Nat × Entry := (66, ⟨[.val .str], [.str], fun z => text_Fold z⟩)
theorem text_Fold_ok : EntryOk Tryd.prog GG 66 text_FoldEnt.2 := by
  refine ent_calls (ps := [.val .str]) (rs := [.str]) (GoFn.mk Tryd.f66 (by kernel_rfl) (by kernel_rfl) (by kernel_rfl)) (by simp [Ty.top]) rfl fun (a0 : List UInt8) r w φ vals gs hs hz hG ha => ?_
  have hz : text_Fold a0 = some r := hz
  unfold text_Fold at hz
  split at hz
  case isFalse => cases hz
  case isTrue hC =>
  injection hz with hz
  subst hz
  cases ha with
  | val h01 h02 h03 =>
  cases h03
  obtain ⟨rfl, _⟩ := h02
  refine (fold_walk ⟨a0.toArray⟩ w hG.2.2.2.2 (Nat.le_trans (Nat.le_of_eq (Eng.str_size a0)) hC)).mono ?_
  rintro e w' ⟨rfl, hb⟩
  exact ⟨⟨[Eng.str (foldF ⟨a0.toArray⟩ a0.length 0 false [])], rfl, TupR.cons (t := .str) (cs := [_]) (h := []) (hs := []) rfl ⟨rfl, rfl⟩ .nil⟩, hb⟩
end Go.Fn
