/-
  What a state of the interpreter says of a frame and of memory.
-/
import Derived.Test.YtkfcinmgebhbhaaDoorQEv
namespace Go.Lf
open Go Go.Eng

/-! ### Chunks: less is known, or belongs -/
def Sub (h h' : List Chunk) : Prop := ∀ (C : Cx) (w : World) (I : World → Prop) (r : List Chunk), Hb C w (h ++ r) I → Hb C w (h' ++ r) I
theorem Sub.refl (h : List Chunk) : Sub h h := fun _ _ _ _ x => x
theorem Sub.trans {a b c : List Chunk} (h : Sub a b) (h' : Sub b c) : Sub a c := fun _ _ _ _ x => h' _ _ _ _ (h _ _ _ _ x)
theorem Sub.perm {a b : List Chunk} (p : a.Perm b) : Sub a b := fun _ _ _ r x => x.perm (p.append_right r)
theorem Sub.nil (a : List Chunk) : Sub a [] := fun _ _ _ r x => Hb.weak (ds := a) (ks := r) x fun _ h _ => h
theorem Sub.app {a b a' b' : List Chunk} (h : Sub a a') (h' : Sub b b') : Sub (a ++ b) (a' ++ b') := fun C w I r x => by
  rw [List.append_assoc] at x
  have x1 := h _ _ _ _ x
  have x2 : Hb C w (b ++ (a' ++ r)) I := x1.perm (by rw [← List.append_assoc, ← List.append_assoc]; exact List.perm_append_comm.append_right r)
  have x3 := h' _ _ _ _ x2
  exact x3.perm (by rw [← List.append_assoc]; exact List.perm_append_comm.append_right r)
theorem Sub.cons {c : Chunk} {a a' : List Chunk} (h : Sub a a') : Sub (c :: a) (c :: a') := Sub.app (a := [c]) (Sub.refl _) h
theorem Sub.right {a b : List Chunk} : Sub (a ++ b) b := (Sub.app (Sub.nil a) (Sub.refl b))
theorem Sub.left {a b : List Chunk} : Sub (a ++ b) a := by simpa using Sub.app (Sub.refl a) (Sub.nil b)
theorem Sub.hb {a b : List Chunk} (h : Sub a b) {C : Cx} {w : World} {I : World → Prop} (x : Hb C w a I) : Hb C w b I := by
  have := h C w I [] (by simpa using x)
  simpa using this
/-- the empty slice's row comes from nowhere -/
theorem Sub.nilrow (p : Bool) (t size : Nat) : Sub [] [.row p (.slice none 0 0) t size 0 []] := fun C w I r h => by
  refine h.step (Ext.refl _ _ _) (fun c hc => ?_) (fun c hc g hg => ?_) ?_ fun c hc g hg d hd hdg => ?_
  · rcases List.mem_cons.1 hc with rfl | hc
    · exact World.ownsRow_nil _ _ _ _
    · exact h.hp.hold c hc
  · rcases List.mem_cons.1 hc with rfl | hc
    · simp [Chunk.blk, Value.ownBlock] at hg
    · exact .inl ⟨c, hc, hg⟩
  · exact List.pairwise_cons.2 ⟨fun d _ g hg => by simp [Chunk.blk, Value.ownBlock] at hg, h.hp.apart⟩
  · rcases List.mem_cons.1 hd with rfl | hd
    · simp [Chunk.blk, Value.ownBlock] at hdg
    · rw [Apart.uniq h.hp.apart c hc d hd g hg hdg]; exact Nat.le_refl _

theorem Ty.er_er (t : Ty) : t.er.er = t.er := by induction t <;> simp_all [Ty.er]
theorem Rp.er_nil {φ : Phi} : ∀ {t : Ty} {x : t.den} {cs : List Value} {hs : List Chunk}, t = t.er → Rp φ t x cs hs → hs = []
  | .int _, _, _, _, _, h => h.2
  | .bool, _, _, _, _, h => h.2
  | .str, _, _, _, _, h => h.2
  | .unit, _, _, _, _, h => h.2
  | .dead _ _, _, _, _, e, _ => by simp [Ty.er] at e
  | .sl _, _, _, _, _, h => by obtain ⟨_, _, _, _, _, _, _, h5⟩ := h; exact h5
  | .rw _ _, _, _, _, e, _ => by simp [Ty.er] at e
  | .mr _ _, _, _, _, e, _ => by simp [Ty.er] at e
  | .ptr _, _, _, _, _, h => by obtain ⟨_, _, _, _, _, h5⟩ := h; exact h5
  | .eb _ _, _, _, _, _, h => h.1
  | .st t, _, _, _, e, h => Rp.er_nil (t := t) (by simpa [Ty.er] using e) h
  | .pr a b, _, _, _, e, h => by
    obtain ⟨_, _, _, _, _, e2, h3, h4⟩ := h
    simp only [Ty.er, Ty.pr.injEq] at e
    rw [e2, Rp.er_nil e.1 h3, Rp.er_nil e.2 h4]; rfl

theorem coe_ok {φ : Phi} : ∀ {t t' : Ty} {x : t.den} {y : t'.den} {cs : List Value} {h : List Chunk}, coe t t' x = some y → Rp φ t x cs h → ∃ h', Rp φ t' y cs h' ∧ Sub h h'
  | t, t', x, y, cs, h => by
    have key : ∀ (hh : t = t'), (some (hh ▸ x) : Option t'.den) = some y → Rp φ t x cs h → ∃ h', Rp φ t' y cs h' ∧ Sub h h' := by
      intro hh e r
      subst hh
      simp only [Option.some.injEq] at e
      subst e
      exact ⟨h, r, Sub.refl _⟩
    intro e r
    unfold coe at e
    split at e
    · rename_i a b x
      split at e
      · rename_i hh
        subst hh
        simp only [Option.some.injEq] at e
        subst e
        exact ⟨h, r, Sub.refl _⟩
      · exact coe_ok (t := a) (t' := b) e r
    · rename_i a b a' b' x
      obtain ⟨c1, c2, h1, h2, e1, e2, r1, r2⟩ := r
      split at e
      · rename_i y1 z1 hy hz
        simp only [Option.some.injEq] at e
        subst e
        obtain ⟨k1, q1, s1⟩ := coe_ok hy r1
        obtain ⟨k2, q2, s2⟩ := coe_ok hz r2
        exact ⟨k1 ++ k2, ⟨c1, c2, k1, k2, e1, rfl, q1, q2⟩, by rw [e2]; exact Sub.app s1 s2⟩
      · cases e
    · rename_i el a b x
      split at e
      · rename_i hh
        subst hh
        simp only [Option.some.injEq] at e
        subst e
        obtain ⟨A, c, css, h1, h2, h3, h4, h5⟩ := r
        exact ⟨[], ⟨A, c, css, h1, h2, h3, h4, rfl⟩, Sub.nil _⟩
      · cases e
    · split at e
      · rename_i hh
        exact key hh e r
      · cases e

theorem sv_one {φ : Phi} {t : Ty} {x : t.den} {cs : List Value} {h : List Chunk} (ht : t.top = true) (r : Rp φ t x cs h) : (sv t cs).cells = cs.toArray := by
  cases t with
  | st t => rfl
  | int k => obtain ⟨rfl, _⟩ := r; rfl
  | bool => obtain ⟨rfl, _⟩ := r; rfl
  | str => obtain ⟨rfl, _⟩ := r; rfl
  | sl t => obtain ⟨_, _, _, rfl, _⟩ := r; rfl
  | rw el t => obtain ⟨_, _, _, rfl, _⟩ := r; rfl
  | ptr t => obtain ⟨_, _, rfl, _⟩ := r; rfl
  | eb te t => cases x with
    | none => obtain ⟨_, rfl⟩ := r; rfl
    | some y => obtain ⟨_, _, _, rfl, _⟩ := r; rfl
  | unit => cases ht
  | dead _ _ => cases ht
  | mr _ _ => cases ht
  | pr _ _ => cases ht
theorem coe_sv : ∀ {t t' : Ty} {x : t.den} {y : t'.den}, coe t t' x = some y → ∀ cs, sv t cs = sv t' cs
  | t, t', x, y => by
    intro e cs
    unfold coe at e
    split at e
    · rfl
    · rcases cs with _ | ⟨v, _ | _⟩ <;> rfl
    · rcases cs with _ | ⟨v, _ | _⟩ <;> rfl
    · split at e
      · rename_i h; rw [h]
      · cases e
theorem coe_top : ∀ {t t' : Ty} {x : t.den} {y : t'.den}, coe t t' x = some y → t.top = true → t'.top = true
  | t, t', x, y => by
    intro e h
    unfold coe at e
    split at e
    · rfl
    · cases h
    · rfl
    · split at e
      · rename_i h'; rw [← h']; exact h
      · cases e

/-! ### States -/
structure Wit where
  φ : Phi
  adr : Nat → Nat
  hd : Nat → List Value

inductive TupR (φ : Phi) : List Dn → List Value → List Chunk → Prop
  | nil : TupR φ [] [] []
  | cons {t : Ty} {x : t.den} {cs : List Value} {h hs : List Chunk} {l : List Dn} {vs : List Value} : t.top = true → Rp φ t x cs h → TupR φ l vs hs → TupR φ (⟨t, x⟩ :: l) (sv t cs :: vs) (h ++ hs)

def DR (W : Wit) : D → Value → List Chunk → Prop
  | .v t x, v, h => ∃ cs, t.top = true ∧ v = sv t cs ∧ Rp W.φ t x cs h
  | .nils, v, h => v = .slice none 0 0 ∧ h = []
  | .nilp, v, h => v = .pointer none ∧ h = []
  | .niI, v, h => v = .nilIface ∧ h = []
  | .und, _, h => h = []
  | .udf, v, h => v = undef ∧ h = []
  | .ref j _ o, v, h => v = .pointer (some ⟨W.adr j, o, none⟩) ∧ h = []
  | .fro t x, v, h => ∃ ad cs, v = .pointer (some ad) ∧ Rp W.φ t x cs [] ∧ PhiAt W.φ ad cs ∧ h = []
  | .aref j _ o, v, h => (W.hd j)[o]? = some v ∧ h = []
  | .ael j _ o n sz _ qo, v, h => ∃ A m c, (W.hd j)[o]? = some (.slice (some A) m c) ∧ v = .pointer (some (A.add (n * sz + qo))) ∧ h = []
  | .tup l, v, h => ∃ vs, v = .tuple vs.toArray ∧ TupR W.φ l vs h
  | .fn f, v, h => v = .func (.func f) #[] #[] ∧ h = []

inductive EnvR (W : Wit) : List (Nat × D) → Env → List Chunk → Prop
  | nil : EnvR W [] [] []
  | cons {k : Nat} {d : D} {v : Value} {h hs : List Chunk} {l : List (Nat × D)} {e : Env} : DR W d v h → EnvR W l e hs → EnvR W ((k, d) :: l) ((k, v) :: e) (h ++ hs)

def ObOk (W : Wit) (j : Nat) (ob : Ob) (h : List Chunk) : Prop := ∃ h0, Rp W.φ ob.t ob.x (W.hd j) h0 ∧ h = match ob.tid with | some tid => blk (W.adr j) tid (W.hd j) :: h0 | none => h0
inductive ObR (W : Wit) : List (Nat × Ob) → List Chunk → Prop
  | nil : ObR W [] []
  | cons {j : Nat} {ob : Ob} {h hs : List Chunk} {l : List (Nat × Ob)} : ObOk W j ob h → ObR W l hs → ObR W ((j, ob) :: l) (h ++ hs)

structure SRel (S : St) (W : Wit) (e : Env) (eh oh : List Chunk) : Prop where
  env : EnvR W S.env e eh
  obs : ObR W S.objs oh
  nd : (S.objs.map (·.1)).Nodup

theorem look_cons {α : Type} {k n : Nat} {v : α} {r : List (Nat × α)} : look ((k, v) :: r) n = if k = n then some v else look r n := by
  show (bif Nat.beq k n then some v else look r n) = _
  by_cases h : k = n
  · subst h; simp [Nat.beq_refl]
  · have : Nat.beq k n = false := by
      cases hb : Nat.beq k n with
      | false => rfl
      | true => exact absurd (Nat.eq_of_beq_eq_true hb) h
    simp [this, h]
theorem putl_cons {α : Type} {k n : Nat} {v x : α} {r : List (Nat × α)} : putl ((k, v) :: r) n x = if k = n then (n, x) :: r else (k, v) :: putl r n x := by
  show (bif Nat.beq k n then (n, x) :: r else (k, v) :: putl r n x) = _
  by_cases h : k = n
  · subst h; simp [Nat.beq_refl]
  · have : Nat.beq k n = false := by
      cases hb : Nat.beq k n with
      | false => rfl
      | true => exact absurd (Nat.eq_of_beq_eq_true hb) h
    simp [this, h]
theorem dell_cons {α : Type} {k n : Nat} {v : α} {r : List (Nat × α)} : dell ((k, v) :: r) n = if k = n then dell r n else (k, v) :: dell r n := by
  show (bif Nat.beq k n then dell r n else (k, v) :: dell r n) = _
  by_cases h : k = n
  · subst h; simp [Nat.beq_refl]
  · have : Nat.beq k n = false := by
      cases hb : Nat.beq k n with
      | false => rfl
      | true => exact absurd (Nat.eq_of_beq_eq_true hb) h
    simp [this, h]

theorem EnvR.look {W : Wit} {l : List (Nat × D)} {e : Env} {hs : List Chunk} (h : EnvR W l e hs) {k : Nat} {d : D} (hk : Lf.look l k = some d) : ∃ v h r, Look e k v ∧ DR W d v h ∧ hs.Perm (h ++ r) := by
  induction h with
  | nil => cases hk
  | @cons k' d' v h hs l e h1 h2 ih =>
    rw [look_cons] at hk
    split at hk
    · rename_i hkk
      subst hkk
      simp only [Option.some.injEq] at hk
      subst hk
      exact ⟨v, h, hs, .here, h1, List.Perm.refl _⟩
    · obtain ⟨v2, h3, r, h4, h5, h6⟩ := ih hk
      exact ⟨v2, h3, h ++ r, .there h4, h5, (h6.append_left h).trans (by rw [← List.append_assoc, ← List.append_assoc]; exact List.perm_append_comm.append_right r)⟩
theorem EnvR.put {W : Wit} {l : List (Nat × D)} {e : Env} {hs : List Chunk} (h : EnvR W l e hs) {k : Nat} {d : D} {v : Value} {hd : List Chunk} (hv : DR W d v hd) : ∃ hs', EnvR W (putl l k d) (putl e k v) hs' ∧ Sub (hd ++ hs) hs' := by
  induction h with
  | nil => exact ⟨hd ++ [], .cons hv .nil, Sub.refl _⟩
  | @cons k' d' v' h hs l e h1 h2 ih =>
    rw [putl_cons, putl_cons]
    split
    · exact ⟨hd ++ hs, .cons hv h2, Sub.app (Sub.refl _) Sub.right⟩
    · obtain ⟨hs', h3, h4⟩ := ih
      refine ⟨h ++ hs', .cons h1 h3, Sub.trans (Sub.perm ?_) (Sub.app (Sub.refl h) h4)⟩
      rw [← List.append_assoc, ← List.append_assoc]
      exact List.perm_append_comm.append_right hs

theorem putl_keys (e : Env) (k : Nat) (v : Value) : (putl e k v).map (·.1) = if k ∈ e.map (·.1) then e.map (·.1) else e.map (·.1) ++ [k] := by
  induction e with
  | nil => rfl
  | cons p r ih =>
    obtain ⟨k', v'⟩ := p
    rw [putl_cons]
    by_cases h : k' = k
    · subst h; simp
    · rw [if_neg h]
      have hne : ¬ k = k' := fun e => h e.symm
      simp only [List.map_cons, ih, List.mem_cons, hne, false_or]
      split <;> simp
theorem putl_mem {e : Env} {k : Nat} {v : Value} (hn : (e.map (·.1)).Nodup) : ∀ p ∈ putl e k v, p = (k, v) ∨ (p ∈ e ∧ p.1 ≠ k) := by
  induction e with
  | nil => intro p hp; exact .inl (by simpa [putl] using hp)
  | cons q r ih =>
    obtain ⟨k', v'⟩ := q
    simp only [List.map_cons, List.nodup_cons] at hn
    intro p hp
    rw [putl_cons] at hp
    split at hp
    · rename_i h
      subst h
      rcases List.mem_cons.1 hp with rfl | hp
      · exact .inl rfl
      · exact .inr ⟨List.mem_cons_of_mem _ hp, fun e' => hn.1 (e' ▸ List.mem_map.2 ⟨p, hp, rfl⟩)⟩
    · rename_i h
      rcases List.mem_cons.1 hp with rfl | hp
      · exact .inr ⟨List.mem_cons_self, h⟩
      · exact (ih hn.2 p hp).imp id fun h3 => ⟨List.mem_cons_of_mem _ h3.1, h3.2⟩
theorem fr_putl {a : Act} {N : Nat} {e : Env} (h : Fr a N e) {d : Nat} {v : Value} (hN : d < N) : Fr (a.put (some d) v) N (Lf.putl e d v) := by
  have hlt : d < a.tmps.size := by rw [h.size]; exact hN
  refine ⟨by simp [Act.put, h.size], h.defers, ?_, ?_⟩
  · intro p hp
    rcases putl_mem h.nd p hp with rfl | ⟨h1, h2⟩
    · simp [Act.put, hlt]
    · have := h.val p h1
      simp only [Act.put, Array.getD_eq_getD_getElem?] at this ⊢
      rw [Array.getElem?_setIfInBounds_ne (Ne.symm h2)]
      exact this
  · rw [putl_keys]
    split
    · exact h.nd
    · rename_i hk
      refine List.nodup_append.2 ⟨h.nd, by simp, ?_⟩
      intro x hx y hy
      simp only [List.mem_singleton] at hy
      subst hy
      exact fun e' => hk (e' ▸ hx)

/-! ### Operands -/
theorem frzL_ok {φ : Phi} {l : List Dn} {vs : List Value} {h : List Chunk} (ht : TupR φ l vs h) : ∀ {l' : List Dn}, frzL l = some l' → TupR φ l' vs [] := by
  induction ht with
  | nil => intro l' e; simp only [frzL, Option.some.injEq] at e; subst e; exact .nil
  | @cons t x cs h hs l vs h1 h2 h3 ih =>
    intro l' e
    unfold frzL at e
    cases hc : coe t t.er x with
    | none => rw [hc] at e; cases e
    | some y =>
      cases hl : frzL l with
      | none => rw [hc, hl] at e; cases e
      | some m =>
        rw [hc, hl] at e
        injection e with e
        subst e
        obtain ⟨h', r1, _⟩ := coe_ok hc h2
        have := Rp.er_nil (Ty.er_er t).symm r1
        subst this
        rw [coe_sv hc cs]
        exact TupR.cons (h := []) (hs := []) (coe_top hc h1) r1 (ih hl)
theorem peek_nil {W : Wit} {d : D} {v : Value} {h : List Chunk} (hd : DR W d v h) (hne : d.peek ≠ .und) : DR W d.peek v [] := by
  cases d with
  | v t x =>
    obtain ⟨cs, h1, h2, h3⟩ := hd
    cases hc : coe t t.er x with
    | none => exact absurd (by unfold D.peek; simp only [hc]) hne
    | some y =>
      obtain ⟨h', h4, h5⟩ := coe_ok hc h3
      have e1 : D.peek (.v t x) = .v t.er y := by unfold D.peek; simp only [hc]
      have := Rp.er_nil (Ty.er_er t).symm h4
      subst this
      rw [e1]
      exact ⟨cs, coe_top hc h1, by rw [h2]; exact coe_sv hc cs, h4⟩
  | tup l =>
    obtain ⟨vs, h1, h2⟩ := hd
    cases hc : frzL l with
    | none => exact absurd (by unfold D.peek; simp only [hc]) hne
    | some m =>
      have e1 : D.peek (.tup l) = .tup m := by unfold D.peek; simp only [hc]
      rw [e1]
      exact ⟨vs, h1, frzL_ok h2 hc⟩
  | und => exact absurd rfl hne
  | nils => exact ⟨hd.1, rfl⟩
  | nilp => exact ⟨hd.1, rfl⟩
  | niI => exact ⟨hd.1, rfl⟩
  | udf => exact ⟨hd.1, rfl⟩
  | ref j p o => exact ⟨hd.1, rfl⟩
  | fro t x => obtain ⟨ad, cs, h1, h2, h3, _⟩ := hd; exact ⟨ad, cs, h1, h2, h3, rfl⟩
  | aref j p o => exact ⟨hd.1, rfl⟩
  | ael j p o n z q qo => obtain ⟨A, m, cc, h1, h2, _⟩ := hd; exact ⟨A, m, cc, h1, h2, rfl⟩
  | fn f => exact ⟨hd.1, rfl⟩
theorem const_ok {W : Wit} (c : Value) (hne : constD c ≠ .und) : DR W (constD c) c [] := by
  unfold constD at hne ⊢
  split at hne <;> first | exact absurd rfl hne | skip
  · exact ⟨[_], rfl, rfl, rfl, rfl⟩
  · exact ⟨[_], rfl, rfl, rfl, rfl⟩
  · rename_i s
    refine ⟨[.string s], rfl, rfl, ?_, rfl⟩
    show [Value.string s] = [Eng.str s.data.toList]
    unfold Eng.str
    simp
  · exact ⟨rfl, rfl⟩
  · exact ⟨rfl, rfl⟩
  · exact ⟨rfl, rfl⟩
theorem raw_ok {W : Wit} {S : St} {e : Env} {hs : List Chunk} (h : EnvR W S.env e hs) {x : Operand} (hne : S.raw x ≠ .und) : ∃ v h r, EV e x v ∧ DR W (S.raw x) v h ∧ hs.Perm (h ++ r) := by
  cases x with
  | tmp t =>
    cases hl : look S.env t with
    | none => exact absurd (by simp only [St.raw, hl]) hne
    | some d =>
      obtain ⟨v, h1, r, h2, h3, h4⟩ := h.look hl
      have e1 : S.raw (.tmp t) = d := by simp only [St.raw, hl]
      rw [e1]
      exact ⟨v, h1, r, .t h2, h3, h4⟩
  | const c => exact ⟨c, [], hs, .c, const_ok c hne, List.Perm.refl _⟩
  | global g => exact absurd rfl hne
  | func f => exact ⟨_, [], hs, .f, ⟨rfl, rfl⟩, List.Perm.refl _⟩
theorem peek_und {d : D} (h : d.peek ≠ .und) : d ≠ .und := fun e => h (by rw [e]; rfl)
theorem get_nil {W : Wit} {S : St} {e : Env} {hs : List Chunk} (h : EnvR W S.env e hs) {x : Operand} {d : D} (hd : S.get x = d) (hne : d ≠ .und) : ∃ v, EV e x v ∧ DR W d v [] := by
  subst hd
  obtain ⟨v, h1, r, h2, h3, _⟩ := raw_ok h (x := x) (peek_und hne)
  exact ⟨v, h2, peek_nil h3 hne⟩
theorem get_ok {W : Wit} {S : St} {e : Env} {hs : List Chunk} (h : EnvR W S.env e hs) {x : Operand} {d : D} (hd : S.get x = d) (hne : d ≠ .und) : ∃ v h', EV e x v ∧ DR W d v h' := by
  obtain ⟨v, h1, h2⟩ := get_nil h hd hne
  exact ⟨v, [], h1, h2⟩
theorem peek_er {d : D} {t : Ty} {x : t.den} (h : d.peek = .v t x) : t = t.er := by
  cases d with
  | v t' x' =>
    unfold D.peek at h
    cases hc : coe t' t'.er x' with
    | none => simp only [hc] at h; cases h
    | some y =>
      simp only [hc] at h
      have : t'.er = t := by injection h
      rw [← this, Ty.er_er]
  | tup l =>
    unfold D.peek at h
    cases hc : frzL l with
    | none => simp only [hc] at h; cases h
    | some y => simp only [hc] at h; cases h
  | _ => cases h
section
variable {W : Wit} {S : St} {e : Env} {hs : List Chunk} {x : Operand}
theorem get_v (h : EnvR W S.env e hs) {t : Ty} {y : t.den} (hd : S.get x = .v t y) : ∃ cs, EV e x (sv t cs) ∧ Rp W.φ t y cs [] ∧ t.top = true ∧ t = t.er := by
  obtain ⟨v, h', h1, cs, h2, h3, h4⟩ := get_ok h hd (by intro e; cases e)
  have h5 := peek_er hd
  have := Rp.er_nil h5 h4
  subst this
  exact ⟨cs, h3 ▸ h1, h4, h2, h5⟩
theorem get_int (h : EnvR W S.env e hs) {k : IntKind} {a : Int} (hd : S.get x = .v (.int k) a) : EV e x (.int k a) := by
  obtain ⟨cs, h1, h2, _⟩ := get_v h hd
  obtain ⟨rfl, _⟩ := h2
  exact h1
theorem get_bool (h : EnvR W S.env e hs) {b : Bool} (hd : S.get x = .v .bool b) : EV e x (.bool b) := by
  obtain ⟨cs, h1, h2, _⟩ := get_v h hd
  obtain ⟨rfl, _⟩ := h2
  exact h1
theorem get_str (h : EnvR W S.env e hs) {l : List UInt8} (hd : S.get x = .v .str l) : EV e x (Eng.str l) := by
  obtain ⟨cs, h1, h2, _⟩ := get_v h hd
  obtain ⟨rfl, _⟩ := h2
  exact h1
theorem get_ref (h : EnvR W S.env e hs) {j : Nat} {p : List Dir} {o : Nat} (hd : S.get x = .ref j p o) : EV e x (.pointer (some ⟨W.adr j, o, none⟩)) := by
  obtain ⟨v, h', h1, rfl, _⟩ := get_ok h hd (by intro e; cases e)
  exact h1
theorem get_aref (h : EnvR W S.env e hs) {j : Nat} {p : List Dir} {o : Nat} (hd : S.get x = .aref j p o) : ∃ v, EV e x v ∧ (W.hd j)[o]? = some v := by
  obtain ⟨v, h', h1, h2, _⟩ := get_ok h hd (by intro e; cases e)
  exact ⟨v, h1, h2⟩
theorem get_nils (h : EnvR W S.env e hs) (hd : S.get x = .nils) : EV e x (.slice none 0 0) := by
  obtain ⟨v, h', h1, rfl, _⟩ := get_ok h hd (by intro e; cases e)
  exact h1
theorem get_fn (h : EnvR W S.env e hs) {f : Nat} (hd : S.get x = .fn f) : EV e x (.func (.func f) #[] #[]) := by
  obtain ⟨v, h', h1, rfl, _⟩ := get_ok h hd (by intro e; cases e)
  exact h1
end
end Go.Lf
