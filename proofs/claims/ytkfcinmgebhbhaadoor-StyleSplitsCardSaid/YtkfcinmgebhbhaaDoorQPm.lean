/- Chapter 6, plainly: sheets of styles. -/
import Derived.Test.YtkfcinmgebhbhaaDoorQPi
import Derived.Test.YtkfcinmgebhbhaaDoorQFc
namespace Go.Fn
open Go Go.Lf

/-- a style's place, by its name -/
def fnd : List Sty → Bs → Option Nat
  | [], _ => none
  | s :: r, n => if s.1 = n then some 0 else (fnd r n).map (· + 1)
theorem fnd_lt : ∀ (l : List Sty) (n : Bs) (i : Nat), fnd l n = some i → i < l.length
  | [], n, i, h => by cases h
  | s :: r, n, i, h => by
    unfold fnd at h
    split at h
    · injection h with h; subst h; simp
    · cases hr : fnd r n with
      | none => rw [hr] at h; cases h
      | some j =>
        rw [hr] at h
        have := fnd_lt r n j hr
        have h : j + 1 = i := by injection h
        simp only [List.length_cons]; omega
theorem find_loop (l : List Sty) (n : Bs) (hl : l.length < 9223372036854775807) (B : Int → Option (Int ⊕ (Unit ⊕ (Int × Bool)))) (hB : ∀ z1, B z1 = (bif (decide (z1 < (((List.length l) : Nat) : Int))) then ((Go.Lf.idx l z1)).bind fun r2 =>
     bif (decide ((r2.1 : List (UInt8)) = n)) then some (.inr (.inr (z1, true)))
     else some (.inl (Go.IntKind.wrap .i64 (z1 + (1 : Int))))
     else some (.inr (.inl ())))) : (loopC B 0).bind (fun r3 => onSum r3 (fun _ => some ((0 : Int), false)) (fun b5 => some (b5.1, b5.2))) = some (match fnd l n with | some i => ((i : Int), true) | none => (0, false)) := by
  have h := range_loopI0 (l := l) (κ := Unit ⊕ (Int × Bool)) (B := B) (fun i s => if s.1 = n then some (.inr (.inr ((i : Int), true))) else some (.inl ())) (.inl ()) (fun i x hx => by
      have hlt : i < l.length := (List.getElem?_eq_some_iff.1 hx).1
      have e1 : (i : Int) < ((l.length : Nat) : Int) := by omega
      rw [hB, idx_nat, hx, wrapS (by omega)]
      by_cases hw : x.1 = n <;> simp [e1, hw, onSum]) (by rw [hB]; simp) l.length 0 (by omega)
  rw [List.drop_zero] at h
  have key : ∀ (l : List Sty) (k : Nat), foldI (fun i s (_ : Unit) => if s.1 = n then some (.inr (.inr ((i : Int), true))) else some (.inl ())) (fun _ => (.inl () : Unit ⊕ (Int × Bool))) k l () = some (match fnd l n with | some i => .inr (((k + i : Nat) : Int), true) | none => .inl ()) := fun l => by
    induction l with
    | nil => intro k; rfl
    | cons x r ih =>
      intro k
      unfold foldI fnd
      by_cases hx : x.1 = n
      · simp [hx, onSum]
      · simp only [hx, if_false, Option.bind_some, onSum]
        rw [ih (k + 1)]
        cases fnd r n with
        | none => rfl
        | some i => simp only [Option.map_some, show k + 1 + i = k + (i + 1) by omega]
  rw [key] at h
  have h : loopC B (0 : Int) = _ := h
  rw [h]
  cases fnd l n with
  | none => rfl
  | some i => simp [onSum]
theorem sfind_eq (l : List Sty) (n : Bs) (hl : l.length < 9223372036854775807) : style_Find l n = some (match fnd l n with | some i => ((i : Int), true) | none => (0, false)) := find_loop l n hl _ fun _ => rfl
theorem rfind_eq (l : List Sty) (n : Bs) (hl : l.length < 9223372036854775807) : folioref06_Find l n = some (match fnd l n with | some i => ((i : Int), true) | none => (0, false)) := find_loop l n hl _ fun _ => rfl

/-- a loop over places that may stop -/
theorem loop_all {K : Type} {B : Int → Option (Int ⊕ (Unit ⊕ K))} (n : Nat) (P : Nat → Prop) (Q : K → Prop) (h1 : ∀ i, i < n → (B (i : Int) = some (.inl ((i + 1 : Nat) : Int)) ∧ P i) ∨ ∃ k, B (i : Int) = some (.inr (.inr k)) ∧ Q k)
    (h2 : B (n : Int) = some (.inr (.inl ()))) : ∀ m i : Nat, i + m = n → (loopC B (i : Int) = some (.inl ()) ∧ ∀ j, i ≤ j → j < n → P j) ∨ ∃ k, loopC B (i : Int) = some (.inr k) ∧ Q k
  | 0, i, h => by
    have : i = n := by omega
    subst this
    rw [loopC_step, h2]
    exact .inl ⟨rfl, fun j _ _ => by omega⟩
  | m + 1, i, h => by
    rw [loopC_step]
    rcases h1 i (by omega) with ⟨e, hp⟩ | ⟨k, e, hq⟩
    · rw [e]
      rcases loop_all n P Q h1 h2 m (i + 1) (by omega) with ⟨e2, hp2⟩ | ⟨k, e2, hq⟩
      · refine .inl ⟨e2, fun j h3 h4 => ?_⟩
        by_cases hj : j = i
        · subst hj; exact hp
        · exact hp2 j (by omega) h4
      · exact .inr ⟨k, e2, hq⟩
    · rw [e]
      exact .inr ⟨k, rfl, hq⟩
/-- sheets whose parts are in range -/
def Fine (l : List Sty) : Prop := l.length ≤ 140737488351300 ∧ ∀ s ∈ l, s.1.length ≤ lim ∧ s.2.1.length ≤ lim ∧ Fits s.2.2.1.1 ∧ Fits s.2.2.1.2.1
theorem whole_stop (l : List Sty) (i : Nat) (hi : i < l.length) (hl : l.length < 9223372036854775807) (h : l[i].2.1 = [] ∨ fnd l l[i].2.1 = none) (self : List Sty × Int → Option Chg) : ∃ c, style_wholeB self l (i : Int) = some c := by
  unfold style_wholeB
  rw [plain_eq]
  have hg : idx l (i : Int) = some l[i] := by rw [idx_nat, List.getElem?_eq_getElem hi]
  simp only [Option.bind_some, hg, sfind_eq l _ hl, then_eq]
  rcases h with h | h
  · simp only [h]
    cases fnd l [] <;> exact ⟨_, rfl⟩
  · simp only [h]
    exact ⟨_, rfl⟩
theorem whole_go (l : List Sty) (i j : Nat) (hi : i < l.length) (hl : l.length < 9223372036854775807) (h : fnd l l[i].2.1 = some j) (hne : l[i].2.1 ≠ []) (self : List Sty × Int → Option Chg) (hs : ∃ c, self (l, (j : Int)) = some c) : ∃ c, style_wholeB self l (i : Int) = some c := by
  obtain ⟨c, hc⟩ := hs
  unfold style_wholeB
  rw [plain_eq]
  have hg : idx l (i : Int) = some l[i] := by rw [idx_nat, List.getElem?_eq_getElem hi]
  simp only [Option.bind_some, hg, sfind_eq l _ hl, then_eq, h, hne, ne_eq, not_false_eq_true, decide_true, cond_true, hc]
  exact ⟨_, rfl⟩
theorem ends_loop (l : List Sty) (hl : l.length < 9223372036854775807) (B : Int × Int × Bool → Option ((Int × Int × Bool) ⊕ Bool)) (hB : ∀ z1, B z1 = (bif (decide (z1.1 < (8 : Int))) then ((Go.Lf.idx l z1.2.1)).bind fun r2 =>
     ((Go.Fn.style_Find l r2.2.1)).bind fun r3 =>
     (((Go.Lf.idx l z1.2.1)).bind fun r4 =>
       bif (!(decide ((r4.2.1 : List (UInt8)) = ([] : List (UInt8))))) then some (!r3.2)
       else some true).bind fun r5 =>
     bif r5 then some (.inr true)
     else some (.inl ((Go.IntKind.wrap .i64 (z1.1 + (1 : Int))), (r3.1, z1.2.2)))
     else some (.inr z1.2.2))) : ∀ (m k i : Nat), k + m = 8 → i < l.length → ∃ r, loopC B ((k : Int), (i : Int), false) = some r ∧ (r = true → ∃ c, style_wholeN m (l, (i : Int)) = some c)
  | 0, k, i, hk, hi => by
    have hk8 : ¬ (k : Int) < 8 := by omega
    rw [loopC_step, hB]
    simp only [hk8, decide_false, cond_false, Option.bind_some]
    exact ⟨_, rfl, fun h => by cases h⟩
  | m + 1, k, i, hk, hi => by
    have hk8 : (k : Int) < 8 := by omega
    have hg : idx l (i : Int) = some l[i] := by rw [idx_nat, List.getElem?_eq_getElem hi]
    rw [loopC_step, hB]
    simp only [hk8, decide_true, cond_true, hg, Option.bind_some, sfind_eq l _ hl]
    by_cases hb : l[i].2.1 = []
    · simp only [hb, decide_true, Bool.not_true, cond_false, Option.bind_some, cond_true]
      exact ⟨_, rfl, fun _ => whole_stop l i hi hl (.inl hb) _⟩
    · simp only [hb, decide_false, Bool.not_false, cond_true, Option.bind_some]
      cases hf : fnd l l[i].2.1 with
      | none =>
        simp only [Bool.not_false, cond_true, Option.bind_some]
        exact ⟨_, rfl, fun _ => whole_stop l i hi hl (.inr hf) _⟩
      | some j =>
        simp only [Bool.not_true, cond_false, Option.bind_some]
        rw [wrapS (by omega)]
        obtain ⟨r, e, h⟩ := ends_loop l hl B hB m (k + 1) j (by omega) (fnd_lt l _ j hf)
        exact ⟨r, e, fun hr => whole_go l i j hi hl hf hb _ (h hr)⟩
theorem ends_eq (l : List Sty) (hl : l.length < 9223372036854775807) (i : Nat) (hi : i < l.length) : ∃ r, style_ends l (i : Int) = some r ∧ (r = true → ∃ c, style_whole l (i : Int) = some c) := by
  unfold style_ends
  obtain ⟨r, e, h⟩ := ends_loop l hl _ (fun _ => rfl) 8 0 i rfl hi
  have e : loopC _ ((0 : Int), ((i : Int), false)) = some r := e
  rw [e]
  refine ⟨r, rfl, fun hr => ?_⟩
  obtain ⟨c, hc⟩ := h hr
  exact ⟨c, sup_le (fun n => style_wholeN_mono n _) 8 _ hc⟩
theorem whole_tot (l : List Sty) (hl : l.length < 9223372036854775807) (i : Nat) (hi : i < l.length) (h : l[i].2.1 = [] ∨ fnd l l[i].2.1 = none) : ∃ c, style_whole l (i : Int) = some c := by
  obtain ⟨c, hc⟩ := whole_stop l i hi hl h (style_wholeN 0)
  exact ⟨c, sup_le (fun n => style_wholeN_mono n _) 1 _ hc⟩
/-- the check: it answers, and what passes has all its wholes -/
theorem scheck_eq (l : List Sty) (hf : Fine l) : ∃ p c, style_Check l = some (p, c) ∧ (c = 0 → ∀ i, i < l.length → ∃ r, style_whole l (i : Int) = some r) := by
  obtain ⟨hlen, hall⟩ := hf
  unfold style_Check
  by_cases h64 : (64 : Int) < ((l.length : Nat) : Int)
  · simp only [h64, decide_true, cond_true]
    exact ⟨_, _, rfl, fun h => absurd h (by decide)⟩
  · simp only [h64, decide_false, cond_false]
    have L1 := loop_all (B := fun z1 =>
     bif (decide (z1 < (((List.length l) : Nat) : Int))) then ((Go.Lf.idx l z1)).bind fun r2 =>
     ((Go.Fn.style_named r2.1)).bind fun r3 =>
     bif (!r3) then some (.inr (.inr (z1, (60 : Int))))
     else ((Go.Lf.sub l (0 : Int) z1)).bind fun r4 =>
     ((Go.Fn.style_Find r4 r2.1)).bind fun r5 =>
     bif r5.2 then some (.inr (.inr (z1, (61 : Int))))
     else ((Go.Fn.style_change r2.2.2.1)).bind fun r6 =>
     bif (decide ((r6 : Int) ≠ (0 : Int))) then some (.inr (.inr (z1, r6)))
     else some (.inl (Go.IntKind.wrap .i64 (z1 + (1 : Int))))
     else some (.inr (.inl ()))) l.length (fun _ => True) (fun k : Int × Int => k.2 ≠ 0) (fun i hi => by
      have hg : idx l (i : Int) = some l[i] := by rw [idx_nat, List.getElem?_eq_getElem hi]
      have e1 : (i : Int) < ((l.length : Nat) : Int) := by omega
      obtain ⟨a1, a2, a3, a4⟩ := hall l[i] (List.getElem_mem hi)
      unfold lim at a1 a2
      have hsub : sub l 0 (i : Int) = some (l.take i) := by
        have := sub_nat (l := l) (a := 0) (b := i) (by omega) (by omega)
        simpa using this
      simp only [e1, decide_true, cond_true, hg, Option.bind_some, named_eq l[i].1 (by omega), hsub, sfind_eq (l.take i) _ (by simp; omega), change_eq _ ⟨a3, a4⟩]
      cases okName l[i].1 with
      | false => exact .inr ⟨_, rfl, (show (60 : Int) ≠ 0 by decide)⟩
      | true =>
        simp only [Bool.not_true, cond_false]
        cases fnd (l.take i) l[i].1 with
        | some j => exact .inr ⟨_, rfl, (show (61 : Int) ≠ 0 by decide)⟩
        | none =>
          by_cases hc : chgS l[i].2.2.1 = 0
          · simp only [hc, ne_eq, not_true_eq_false, decide_false, cond_false]
            rw [wrapS (by omega)]
            exact .inl ⟨rfl, trivial⟩
          · simp only [hc, ne_eq, not_false_eq_true, decide_true, cond_true, cond_false]
            exact .inr ⟨_, rfl, hc⟩) (by simp) l.length 0 (by omega)
    rcases L1 with ⟨e, _⟩ | ⟨k, e, hq⟩
    · have e : loopC _ (0 : Int) = _ := e
      rw [e]
      simp only [Option.bind_some, onSum]
      have L2 := loop_all (B := fun z9 =>
     bif (decide (z9 < (((List.length l) : Nat) : Int))) then (((Go.Lf.idx l z9)).bind fun r10 =>
       bif (decide ((r10.2.1 : List (UInt8)) = ([] : List (UInt8)))) then some (.inl ())
       else ((Go.Fn.style_Find l r10.2.1)).bind fun r11 =>
       bif (!r11.2) then some (.inr (z9, (64 : Int)))
       else ((Go.Fn.style_ends l z9)).bind fun r12 =>
       bif (!r12) then some (.inr (z9, (65 : Int)))
       else some (.inl ()) : Option ((Unit) ⊕ ((Int) × (Int)))).bind fun r13 =>
     Go.Lf.onSum r13 (fun a14 =>
     some (.inl (Go.IntKind.wrap .i64 (z9 + (1 : Int))))) (fun b15 =>
     some (.inr (.inr (b15.1, b15.2))))
     else some (.inr (.inl ()))) l.length (fun i => ∃ r, style_whole l (i : Int) = some r) (fun k : Int × Int => k.2 ≠ 0) (fun i hi => by
        have hg : idx l (i : Int) = some l[i] := by rw [idx_nat, List.getElem?_eq_getElem hi]
        have e1 : (i : Int) < ((l.length : Nat) : Int) := by omega
        simp only [e1, decide_true, cond_true, hg, Option.bind_some, sfind_eq l _ (show l.length < 9223372036854775807 by omega)]
        by_cases hb : l[i].2.1 = []
        · simp only [hb, decide_true, cond_true, Option.bind_some, onSum]
          rw [wrapS (by omega)]
          exact .inl ⟨rfl, whole_tot l (by omega) i hi (.inl hb)⟩
        · simp only [hb, decide_false, cond_false]
          cases hf : fnd l l[i].2.1 with
          | none => exact .inr ⟨_, rfl, (show (64 : Int) ≠ 0 by decide)⟩
          | some j =>
            obtain ⟨r, e, h⟩ := ends_eq l (by omega) i hi
            simp only [Bool.not_true, cond_false, e, Option.bind_some]
            cases r with
            | false => exact .inr ⟨_, rfl, (show (65 : Int) ≠ 0 by decide)⟩
            | true =>
              simp only [Bool.not_true, cond_false, Option.bind_some, onSum]
              rw [wrapS (by omega)]
              exact .inl ⟨rfl, h rfl⟩) (by simp) l.length 0 (by omega)
      rcases L2 with ⟨e2, hp⟩ | ⟨k, e2, hq⟩
      · have e2 : loopC _ (0 : Int) = _ := e2
        simp only [onSum] at e2
        rw [e2]
        exact ⟨_, _, rfl, fun _ i hi => hp i (by omega) hi⟩
      · have e2 : loopC _ (0 : Int) = _ := e2
        simp only [onSum] at e2
        rw [e2]
        exact ⟨_, _, rfl, fun h => absurd h hq⟩
    · have e : loopC _ (0 : Int) = _ := e
      rw [e]
      exact ⟨_, _, rfl, fun h => absurd h hq⟩
end Go.Fn
