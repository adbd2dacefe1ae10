/-
  Operations that turn more than their slot.
-/
import Derived.Test.YtkfcinmgebhbhaaDoorQSnd4
namespace Go.Lf
open Go Go.Eng

section
variable (P : Program) (N : Nat) (C : Cx) (G : World → Prop)
/-- The frame and the world are as the state says. -/
def At (S : St) (a : Act) (w : World) : Prop := ∃ W e eh oh, SRel S W e eh oh ∧ Fr a N e ∧ Hb C w (eh ++ oh) (Inv G W.φ)
def OpWp (o : Oper) (S' : St) (a : Act) (w : World) : Prop := match (execOp a.eval o).run P w with
  | .ok (.value v) w' => At N C G S' (a.put o.dst v) w'
  | .ok .skip w' => At N C G S' (a.put o.dst undef) w'
  | .ok (.enter f args) w' => Calls P f args w' fun x w'' => ∃ v, x = .returned v ∧ At N C G S' (a.put o.dst v) w''
  | _ => False
end

section
variable {P : Program} {N : Nat} {C : Cx} {G : World → Prop} {c : Ctx} {S : St} {Rt : Type} {k : St → Option Rt} {r : Rt} {a : Act} {w : World}
variable {W : Wit} {e : Env} {eh oh : List Chunk}

theorem At.put (hs : SRel S W e eh oh) (hf : Fr a N e) {h : List Chunk} (hb : Hb C w (h ++ (eh ++ oh)) (Inv G W.φ)) {d : Nat} {D' : D} {v : Value} (hd : DR W D' v h) (hN : d < N) : At N C G (S.put d D') (a.put (some d) v) w := by
  obtain ⟨hs', h1, h2⟩ := hs.env.put (k := d) hd
  refine ⟨W, putl e d v, hs', oh, ⟨h1, hs.obs, hs.nd⟩, fr_putl hf hN, ?_⟩
  rw [← List.append_assoc] at hb
  exact (Sub.app h2 (Sub.refl oh)).hb hb

theorem blt_ok {d n : Nat} (h : Nat.blt d n = true) : d < n := by simpa [Nat.blt_eq] using h

/-- an operation that leaves the rest -/
theorem val_step (hn : c.n = N) {o : Oper} {d : D} (h : out c o S d k = some r) (hp : POk P N C G S o.op d) : ∃ S', k S' = some r ∧ ∀ a w, At N C G S a w → OpWp P N C G o S' a w := by
  unfold out at h
  have key : ∀ S', (∀ W e eh oh v, SRel S W e eh oh → DR W d v [] → ∀ a w, Fr a N e → Hb C w (eh ++ oh) (Inv G W.φ) → At N C G S' (a.put o.dst v) w) → ∀ a w, At N C G S a w → OpWp P N C G o S' a w := by
    intro S' hS a w ⟨W, e, eh, oh, hs, hf, hb⟩
    obtain ⟨v, h1, h2⟩ := hp W e eh oh hs
    have h3 := h2 o.dst o.type o.pos o.after o.guard a w hf hb
    unfold OpWp
    generalize (execOp a.eval o).run P w = x at h3
    cases x with
    | halt x w2 => exact h3.elim
    | ok x w2 =>
      cases x <;> first | exact h3.elim | skip
      · obtain ⟨rfl, h4⟩ := h3
        exact hS W e eh oh _ hs h1 a w2 hf h4
      · exact Calls.mono h3 fun y w3 hy => by
          obtain ⟨rfl, h4⟩ := hy
          exact ⟨v, rfl, hS W e eh oh _ hs h1 a w3 hf h4⟩
  split at h
  · rename_i dst hd
    cases hb : Nat.blt dst c.n with
    | false => rw [hb] at h; cases h
    | true =>
      rw [hb] at h
      refine ⟨_, h, key _ fun W e eh oh v hs h1 a w hf hb2 => ?_⟩
      rw [hd]
      exact At.put hs hf (by simpa using hb2) h1 (hn ▸ blt_ok hb)
  · rename_i hd
    refine ⟨_, h, key _ fun W e eh oh v hs h1 a w hf hb2 => ?_⟩
    rw [hd]
    exact ⟨W, e, eh, oh, hs, hf, hb2⟩

theorem peek_any {W : Wit} {d : D} {v : Value} {h : List Chunk} (hd : DR W d v h) : DR W d.peek v [] := by
  by_cases he : d.peek = .und
  · rw [he]; rfl
  · exact peek_nil hd he
/-- rights leave a slot -/
theorem EnvR.strip {l : List (Nat × D)} {hs : List Chunk} (h : EnvR W l e hs) {k : Nat} {d : D} (hk : Lf.look l k = some d) :
    ∃ v h1 eh', Look e k v ∧ DR W d v h1 ∧ EnvR W (putl l k d.peek) e eh' ∧ Sub hs (h1 ++ eh') := by
  induction h with
  | nil => cases hk
  | @cons k' d' v h hs l e h1 h2 ih =>
    rw [look_cons] at hk
    split at hk
    · rename_i hkk
      subst hkk
      simp only [Option.some.injEq] at hk
      subst hk
      refine ⟨v, h, [] ++ hs, .here, h1, ?_, by simpa using Sub.refl _⟩
      rw [putl_cons, if_pos rfl]
      exact .cons (peek_any h1) h2
    · rename_i hkk
      obtain ⟨v', h3, eh', q1, q2, q4, q5⟩ := ih hk
      refine ⟨v', h3, h ++ eh', .there q1, q2, ?_, ?_⟩
      · rw [putl_cons, if_neg hkk]
        exact .cons h1 q4
      · refine (Sub.app (Sub.refl h) q5).trans (Sub.perm ?_)
        rw [← List.append_assoc, ← List.append_assoc]
        exact List.perm_append_comm.append_right eh'
theorem strip_ok (hs : SRel S W e eh oh) {x : Operand} {d : D} (hx : S.raw x = d) (hne : d ≠ .und) :
    ∃ v h eh', EV e x v ∧ DR W d v h ∧ SRel (S.strip x) W e eh' oh ∧ Sub eh (h ++ eh') := by
  cases x with
  | tmp s =>
    cases hl : look S.env s with
    | none => simp only [St.raw, hl] at hx; exact absurd hx.symm hne
    | some d' =>
      have hx : d' = d := by simpa only [St.raw, hl] using hx
      subst hx
      have e1 : S.strip (.tmp s) = S.put s d'.peek := by simp only [St.strip, hl]
      rw [e1]
      obtain ⟨v, h1, eh', q1, q2, q4, q5⟩ := hs.env.strip hl
      exact ⟨v, h1, eh', .t q1, q2, ⟨q4, hs.obs, hs.nd⟩, q5⟩
  | const v =>
    have hx' : constD v = d := hx
    have h1 := const_ok (W := W) v (by rw [hx']; exact hne)
    rw [hx'] at h1
    exact ⟨v, [], eh, .c, h1, hs, by simpa using Sub.refl _⟩
  | global g => exact absurd hx.symm hne
  | func f =>
    have hx' : D.fn f = d := hx
    subst hx'
    exact ⟨_, [], eh, .f, ⟨rfl, rfl⟩, hs, by simpa using Sub.refl _⟩

/-- out, behind a step that yields a value -/
theorem out_ok (hn : c.n = N) {o : Oper} {S1 : St} {D' : D} (h : out c o S1 D' k = some r) : ∃ S', k S' = some r ∧ ∀ W e eh oh v hh a w, SRel S1 W e eh oh → DR W D' v hh → Fr a N e → Hb C w (hh ++ (eh ++ oh)) (Inv G W.φ) → At N C G S' (a.put o.dst v) w := by
  unfold out at h
  split at h
  · rename_i dst hd
    cases hb : Nat.blt dst c.n with
    | false => rw [hb] at h; cases h
    | true =>
      rw [hb] at h
      refine ⟨_, h, fun W e eh oh v hh a w hs h1 hf hb2 => ?_⟩
      rw [hd]
      exact At.put hs hf hb2 h1 (hn ▸ blt_ok hb)
  · rename_i hd
    refine ⟨_, h, fun W e eh oh v hh a w hs h1 hf hb2 => ?_⟩
    rw [hd]
    exact ⟨W, e, eh, oh, hs, hf, Sub.right.hb hb2⟩

/-! ### New objects -/
def upd {α : Type} (f : Nat → α) (j : Nat) (x : α) : Nat → α := fun i => if i = j then x else f i
theorem look_none_mem {α : Type} {l : List (Nat × α)} {j : Nat} (h : look l j = none) : j ∉ l.map (·.1) := by
  induction l with
  | nil => simp
  | cons p q ih =>
    obtain ⟨k, v⟩ := p
    rw [look_cons] at h
    split at h
    · cases h
    · rename_i hne
      simp only [List.map_cons, List.mem_cons, not_or]
      exact ⟨fun e => hne e.symm, ih h⟩
theorem DR.upd {d : D} {v : Value} {h : List Chunk} {j g : Nat} {cs : List Value} (hd : DR W d v h) (hj : ∀ p o, d ≠ .ref j p o) (hj2 : ∀ p o, d ≠ .aref j p o) (hj3 : ∀ p o n z q qo, d ≠ .ael j p o n z q qo) : DR ⟨W.φ, Lf.upd W.adr j g, Lf.upd W.hd j cs⟩ d v h := by
  cases d with
  | ref i p o =>
    have : i ≠ j := fun e => hj p o (by rw [e])
    obtain ⟨h1, h2⟩ := hd
    exact ⟨by rw [h1]; simp [Lf.upd, this], h2⟩
  | aref i p o =>
    have : i ≠ j := fun e => hj2 p o (by rw [e])
    obtain ⟨h1, h2⟩ := hd
    exact ⟨by simpa [Lf.upd, this] using h1, h2⟩
  | ael i p o n z q qo =>
    have : i ≠ j := fun e => hj3 p o n z q qo (by rw [e])
    obtain ⟨A, m, cc, h1, h2⟩ := hd
    exact ⟨A, m, cc, by simpa [Lf.upd, this] using h1, h2⟩
  | _ => exact hd
theorem EnvR.killJ {l : List (Nat × D)} {hs : List Chunk} (h : EnvR W l e hs) (j g : Nat) (cs : List Value) : EnvR ⟨W.φ, Lf.upd W.adr j g, Lf.upd W.hd j cs⟩ (Lf.killJ j l) e hs := by
  induction h with
  | nil => exact .nil
  | @cons k d v h hs l e h1 h2 ih =>
    cases d with
    | ref i p o =>
      unfold Lf.killJ
      cases hb : Nat.beq j i with
      | true => exact .cons (show DR _ .und v h from h1.2) ih
      | false =>
        have hne : i ≠ j := fun e => by rw [e, Nat.beq_refl] at hb; cases hb
        exact .cons (h1.upd (fun p o e => by cases e; exact hne rfl) (fun p o e => by cases e) (fun _ _ _ _ _ _ e => by cases e)) ih
    | aref i p o =>
      unfold Lf.killJ
      cases hb : Nat.beq j i with
      | true => exact .cons (show DR _ .und v h from h1.2) ih
      | false =>
        have hne : i ≠ j := fun e => by rw [e, Nat.beq_refl] at hb; cases hb
        exact .cons (h1.upd (fun p o e => by cases e) (fun p o e => by cases e; exact hne rfl) (fun _ _ _ _ _ _ e => by cases e)) ih
    | ael i p o n z q qo =>
      unfold Lf.killJ
      cases hb : Nat.beq j i with
      | true =>
        obtain ⟨A, m, cc, _, _, h3⟩ := h1
        exact .cons (show DR _ .und v h from h3) ih
      | false =>
        have hne : i ≠ j := fun e => by rw [e, Nat.beq_refl] at hb; cases hb
        exact .cons (h1.upd (fun p o e => by cases e) (fun p o e => by cases e) (fun _ _ _ _ _ _ e => by cases e; exact hne rfl)) ih
    | _ =>
      exact .cons (h1.upd (fun p o e => by cases e) (fun p o e => by cases e) (fun _ _ _ _ _ _ e => by cases e)) ih
theorem ObR.other {l : List (Nat × Ob)} {hs : List Chunk} (h : ObR W l hs) {j : Nat} (hj : j ∉ l.map (·.1)) (g : Nat) (cs : List Value) : ObR ⟨W.φ, Lf.upd W.adr j g, Lf.upd W.hd j cs⟩ l hs := by
  induction h with
  | nil => exact .nil
  | @cons i ob h hs l h1 h2 ih =>
    simp only [List.map_cons, List.mem_cons, not_or] at hj
    refine .cons ?_ (ih hj.2)
    obtain ⟨h0, q1, q2⟩ := h1
    have : i ≠ j := fun e => hj.1 e.symm
    exact ⟨h0, by simpa [Lf.upd, this] using q1, by simpa [Lf.upd, this] using q2⟩

/-- a new object, its block, and the slot that points to it -/
theorem newO_ok (hn : c.n = N) {d : Nat} {ob : Ob} {x : D} {S1 : St} (h : newO c d ob x S1 k = some r) :
    ∃ S', k S' = some r ∧ ∀ W e eh oh g cs h0 v a w, SRel S1 W e eh oh → Rp W.φ ob.t ob.x cs h0 → Fr a N e → (DR ⟨W.φ, upd W.adr d g, upd W.hd d cs⟩ x v []) →
      Hb C w ((match ob.tid with | some tid => blk g tid cs :: h0 | none => h0) ++ (eh ++ oh)) (Inv G W.φ) → At N C G S' (a.put (some d) v) w := by
  unfold newO at h
  split at h
  · rename_i hl
    cases hb : Nat.blt d c.n with
    | false => rw [hb] at h; cases h
    | true =>
      rw [hb] at h
      refine ⟨_, h, fun W e eh oh g cs h0 v a w hs hr hf hd hb2 => ?_⟩
      obtain ⟨hs', h1, h2⟩ := (hs.env.killJ d g cs).put (k := d) hd
      refine ⟨⟨W.φ, upd W.adr d g, upd W.hd d cs⟩, putl e d v, hs', _, ⟨h1, ObR.cons (h := match ob.tid with | some tid => blk g tid cs :: h0 | none => h0) ⟨h0, ?_, ?_⟩ (hs.obs.other (look_none_mem hl) g cs), ?_⟩, fr_putl hf (hn ▸ blt_ok hb), ?_⟩
      · simpa [upd] using hr
      · have e1 : upd W.adr d g d = g := by simp [upd]
        have e2 : upd W.hd d cs d = cs := by simp [upd]
        simp only [e1, e2]
        cases ob.tid <;> rfl
      · simp only [List.map_cons, List.nodup_cons]
        exact ⟨look_none_mem hl, hs.nd⟩
      · refine (Sub.perm (b := eh ++ ((match ob.tid with | some tid => blk g tid cs :: h0 | none => h0) ++ oh)) ?_ |>.trans (Sub.app (by simpa using h2) (Sub.refl _))).hb hb2
        rw [← List.append_assoc, ← List.append_assoc]
        exact List.perm_append_comm.append_right oh
  · cases h
end
end Go.Lf
