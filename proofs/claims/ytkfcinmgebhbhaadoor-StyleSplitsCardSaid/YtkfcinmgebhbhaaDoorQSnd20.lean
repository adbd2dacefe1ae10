/-
  A table of types, tried.
-/
import Derived.Test.YtkfcinmgebhbhaaDoorQSnd19
namespace Go.Lf
open Go Go.Eng

/-- the zero of a type, cell by cell -/
def eqz : Value → Value → Bool
  | .int k a, .int k' b => decide (k = k') && decide (a = b)
  | .bool a, .bool b => (a && b) || (!a && !b)
  | .string a, .string b => (match a.data.toList with | [] => true | _ => false) && (match b.data.toList with | [] => true | _ => false)
  | .slice none 0 0, .slice none 0 0 => true
  | .pointer none, .pointer none => true
  | .nilIface, .nilIface => true
  | _, _ => false
def eqzs : List Value → List Value → Bool
  | [], [] => true
  | a :: l, b :: m => eqz a b && eqzs l m
  | _, _ => false
theorem empty_bytes {a : ByteArray} (h : (match a.data.toList with | [] => true | _ => false) = true) : a = ⟨#[]⟩ := by
  split at h
  · rename_i he
    cases a with
    | mk d =>
      congr 1
      exact Array.toList_inj.1 (by rw [he])
  · cases h
theorem eqz_ok {a b : Value} (h : eqz a b = true) : a = b := by
  unfold eqz at h
  split at h
  · simp only [Bool.and_eq_true, decide_eq_true_eq] at h
    rw [h.1, h.2]
  · rename_i a b
    cases a <;> cases b <;> first | rfl | cases h
  · simp only [Bool.and_eq_true] at h
    rw [empty_bytes h.1, empty_bytes h.2]
  · rfl
  · rfl
  · rfl
  · cases h
theorem eqzs_ok : ∀ {a b : List Value}, eqzs a b = true → a = b
  | [], [], _ => rfl
  | a :: l, b :: m, h => by
    unfold eqzs at h
    simp only [Bool.and_eq_true] at h
    rw [eqz_ok h.1, eqzs_ok h.2]
  | [], _ :: _, h => by cases h
  | _ :: _, [], h => by cases h
def tZB (P : Program) (t : Nat) (z : List Value) : Bool := match P.info? t with
  | some i => match i.zero with
    | some v => eqzs v.cells.toList z
    | none => false
  | none => false
theorem tZB_ok {P : Program} {t : Nat} {z : List Value} (h : tZB P t z = true) : tZ P t z := by
  unfold tZB at h
  split at h
  case h_2 => cases h
  case h_1 i hi =>
  split at h
  case h_2 => cases h
  case h_1 v hv =>
  exact ⟨i, v, hi, hv, by rw [← eqzs_ok h]⟩
def appB (P : Program) (t el size bytes : Nat) : Bool := (match P.underlying t with | some (.slice e') => Nat.beq e' el | _ => false) && (match P.info? el with
  | some i => (match i.zero with | some z => Nat.beq i.size size && Nat.beq i.bytes bytes && Nat.beq z.cells.size size && Nat.blt 0 size | none => false)
  | none => false)
theorem appB_ok {P : Program} {t el size bytes : Nat} (h : appB P t el size bytes = true) : AppTy P t el size bytes := by
  unfold appB at h
  simp only [Bool.and_eq_true] at h
  obtain ⟨h1, h2⟩ := h
  split at h1
  case h_2 => cases h1
  case h_1 e' hu =>
  have h1 := Nat.eq_of_beq_eq_true h1
  subst h1
  split at h2
  case h_2 => cases h2
  case h_1 i hi =>
  split at h2
  case h_2 => cases h2
  case h_1 z hz =>
  simp only [Bool.and_eq_true] at h2
  obtain ⟨⟨⟨g1, g2⟩, g3⟩, g4⟩ := h2
  exact ⟨i, z, hu, hi, hz, Nat.eq_of_beq_eq_true g1, Nat.eq_of_beq_eq_true g2, Nat.eq_of_beq_eq_true g3, by simpa [Nat.blt_eq] using g4⟩
def allB (p : Nat → Bool) : Nat → Bool
  | 0 => true
  | n + 1 => allB p n && p n
theorem allB_ok {p : Nat → Bool} : ∀ {n : Nat}, allB p n = true → ∀ i, i < n → p i = true
  | 0, _, i, hi => by omega
  | n + 1, h, i, hi => by
    unfold allB at h
    simp only [Bool.and_eq_true] at h
    rcases Nat.lt_succ_iff_lt_or_eq.1 hi with h2 | rfl
    · exact allB_ok h.1 i h2
    · exact h.2
def someB {α : Type} : Option α → Bool | some _ => true | none => false
def tyB (P : Program) (id : Nat) (i : TyI) : Bool :=
  decide (i.ty = i.ty.er) && tSz P id i.ty.size && someB (P.underlying id) && (bif someB (zero i.ty) then tZB P id (zcells i.ty) else true) && match i.ty with
    | .int k => tSc P id && tInt P id k
    | .bool => tSc P id && tBo P id
    | .str => tSc P id && tStr P id
    | .sl t => tSc P id && tSl P id i.el t.size && appB P id i.el t.size i.sz && (bif decide (t = .int .u8) then tByt P id i.el else true) && decide (t = t.er) && Nat.blt 0 i.sz && (bif someB (zero t) then tZB P i.el (zcells t) else true)
    | .st t => tAg P id t.size && match i.sz with
      | 0 => allB (fun f => tFo P id f (offP t (fpath t f)) && match getTy t (fpath t f) with | some s => tFz P id f s.size | none => true) (nf t) && match P.underlying id with | some (.struct fs) => tStruct P fs | _ => false
      | n + 1 => match arEl t, P.underlying id with
        | some a, some (.array m e) => decide (t = arT a (n + 1)) && Nat.beq m (n + 1) && Nat.beq e i.el && tSz P i.el a.size && (match a with | .st b => tAg P i.el b.size | _ => tSc P i.el)
        | _, _ => false
    | .eb _ _ => tSc P id && tIf P id
    | .ptr _ => tSc P id && tPt P id
    | _ => false
theorem someB_ok {α : Type} {x : Option α} (h : someB x = true) : ∃ y, x = some y := by
  cases x with
  | none => cases h
  | some y => exact ⟨y, rfl⟩
theorem someB_is {α : Type} {x : Option α} (h : x.isSome = true) : someB x = true := by
  cases x with
  | none => cases h
  | some y => rfl
theorem tyB_ok {P : Program} {id : Nat} {i : TyI} (h : tyB P id i = true) : TyOk P id i := by
  obtain ⟨ty, el, sz⟩ := i
  unfold tyB at h
  simp only [Bool.and_eq_true, decide_eq_true_eq] at h
  obtain ⟨⟨⟨⟨h1, h2⟩, h3⟩, h4⟩, h5⟩ := h
  have hz : (zero ty).isSome = true → tZ P id (zcells ty) := fun hs => by
    rw [someB_is hs] at h4
    exact tZB_ok h4
  have hu := someB_ok h3
  cases ty with
  | int k =>
    simp only [Bool.and_eq_true] at h5
    exact ⟨h1, h2, fun _ => h5.1, fun k' e => (by cases e; exact h5.2), fun e => (by cases e), fun e => (by cases e), fun t e => (by cases e), fun t e => (by cases e), fun t e => (by cases e), fun t e => (by cases e), fun _ _ e => (by cases e), fun _ e => (by cases e), hu, hz⟩
  | bool =>
    simp only [Bool.and_eq_true] at h5
    exact ⟨h1, h2, fun _ => h5.1, fun k' e => (by cases e), fun e => h5.2, fun e => (by cases e), fun t e => (by cases e), fun t e => (by cases e), fun t e => (by cases e), fun t e => (by cases e), fun _ _ e => (by cases e), fun _ e => (by cases e), hu, hz⟩
  | str =>
    simp only [Bool.and_eq_true] at h5
    exact ⟨h1, h2, fun _ => h5.1, fun k' e => (by cases e), fun e => (by cases e), fun e => h5.2, fun t e => (by cases e), fun t e => (by cases e), fun t e => (by cases e), fun t e => (by cases e), fun _ _ e => (by cases e), fun _ e => (by cases e), hu, hz⟩
  | eb te t =>
    simp only [Bool.and_eq_true] at h5
    exact ⟨h1, h2, fun _ => h5.1, fun k' e => (by cases e), fun e => (by cases e), fun e => (by cases e), fun t e => (by cases e), fun t e => (by cases e), fun t e => (by cases e), fun t e => (by cases e), fun _ _ e => h5.2, fun _ e => (by cases e), hu, hz⟩
  | ptr t =>
    simp only [Bool.and_eq_true] at h5
    exact ⟨h1, h2, fun _ => h5.1, fun k' e => (by cases e), fun e => (by cases e), fun e => (by cases e), fun t e => (by cases e), fun t e => (by cases e), fun t e => (by cases e), fun t e => (by cases e), fun _ _ e => (by cases e), fun _ e => h5.2, hu, hz⟩
  | sl t =>
    simp only [Bool.and_eq_true, decide_eq_true_eq] at h5
    obtain ⟨⟨⟨⟨⟨⟨g1, g2⟩, g3⟩, g4⟩, g5⟩, g6⟩, g7⟩ := h5
    refine ⟨h1, h2, fun _ => g1, fun k' e => (by cases e), fun e => (by cases e), fun e => (by cases e), fun t' e => ?_, fun t e => (by cases e), fun t e => (by cases e), fun t e => (by cases e), fun _ _ e => (by cases e), fun _ e => (by cases e), hu, hz⟩
    cases e
    refine ⟨g2, appB_ok g3, fun ht => ?_, g5, by simpa [Nat.blt_eq] using g6, fun hs => ?_⟩
    · rw [decide_eq_true ht] at g4; exact g4
    · rw [someB_is hs] at g7
      exact tZB_ok g7
  | st t =>
    simp only [Bool.and_eq_true] at h5
    obtain ⟨g1, g3⟩ := h5
    refine ⟨h1, h2, fun hn => absurd rfl (hn t), fun k' e => (by cases e), fun e => (by cases e), fun e => (by cases e), fun t' e => (by cases e), fun t' e => (by cases e; exact g1), fun t' e hz => ?_, fun t' e hz => ?_, fun _ _ e => (by cases e), fun _ e => (by cases e), hu, hz⟩
    · cases e
      have hz : sz = 0 := hz
      subst hz
      simp only [Bool.and_eq_true] at g3
      obtain ⟨g2, g3⟩ := g3
      have g2 := allB_ok g2
      refine ⟨fun f hf => ?_, ?_⟩
      · have := g2 f hf
        simp only [Bool.and_eq_true] at this
        exact this.1
      · split at g3
        · rename_i fs hfs
          refine ⟨fs, hfs, g3, fun f s hf hs => ?_⟩
          have := g2 f hf
          simp only [Bool.and_eq_true, hs] at this
          exact this.2
        · cases g3
    · cases e
      have hz : 0 < sz := hz
      cases sz with
      | zero => omega
      | succ n =>
      simp only at g3
      split at g3
      case h_2 => cases g3
      case h_1 a m e0 ha hu2 =>
      simp only [Bool.and_eq_true, decide_eq_true_eq] at g3
      obtain ⟨⟨⟨⟨k1, k2⟩, k3⟩, k4⟩, k5⟩ := g3
      have k2 := Nat.eq_of_beq_eq_true k2
      have k3 := Nat.eq_of_beq_eq_true k3
      subst k2 k3
      refine ⟨a, k1, hu2, k4, fun hn => ?_, fun b hb => ?_⟩
      · split at k5
        · exact absurd rfl (hn _)
        · exact k5
      · subst hb
        exact k5
  | _ => cases h5

def tysB (P : Program) : List (Nat × TyI) → Bool
  | [] => true
  | (id, i) :: r => tyB P id i && tysB P r
theorem tysB_ok {P : Program} : ∀ {l : List (Nat × TyI)}, tysB P l = true → ∀ id i, look l id = some i → TyOk P id i
  | [], _, id, i, h => by cases h
  | (id', i') :: r, hb, id, i, h => by
    unfold tysB at hb
    simp only [Bool.and_eq_true] at hb
    rw [look_cons] at h
    split at h
    · rename_i he
      simp only [Option.some.injEq] at h
      subst he h
      exact tyB_ok hb.1
    · exact tysB_ok hb.2 id i h

/-- what is known of functions, one by one -/
inductive FnsOk (P : Program) (G : World → Prop) : List (Nat × Entry) → Prop
  | nil : FnsOk P G []
  | cons {f : Nat} {e : Entry} {l : List (Nat × Entry)} : EntryOk P G f e → FnsOk P G l → FnsOk P G ((f, e) :: l)
theorem FnsOk.look {P : Program} {G : World → Prop} {l : List (Nat × Entry)} (h : FnsOk P G l) : ∀ f e, Lf.look l f = some e → EntryOk P G f e := by
  induction h with
  | nil => intro f e h; cases h
  | cons h1 _ ih =>
    intro f e h
    rw [look_cons] at h
    split at h
    · rename_i he
      simp only [Option.some.injEq] at h
      subst he h
      exact h1
    · exact ih f e h
end Go.Lf
