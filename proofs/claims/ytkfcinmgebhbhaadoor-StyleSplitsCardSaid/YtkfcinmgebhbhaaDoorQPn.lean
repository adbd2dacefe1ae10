/- Chapter 6, plainly: StyleSplits. -/
import Derived.Test.YtkfcinmgebhbhaaDoorQPm
namespace Go.Fn
open Go Go.Lf

theorem chain_tot (l : List Sty) (hl : l.length < 9223372036854775807) (B : Int × Int → Option ((Int × Int) ⊕ (Unit ⊕ Int))) (hB : ∀ z1, B z1 = (((Go.Lf.idx l z1.2)).bind fun r2 =>
     bif (decide ((r2.2.1 : List (UInt8)) ≠ ([] : List (UInt8)))) then ((Go.Lf.idx l z1.2)).bind fun r3 =>
     ((Go.Fn.folioref06_Find l r3.2.1)).bind fun r4 =>
     bif (!r4.2) then bif (decide ((z1.1 : Int) = (1 : Int))) then some (.inr (.inr (64 : Int)))
     else some (.inr (.inr (0 : Int)))
     else bif (decide ((8 : Int) < (Go.IntKind.wrap .i64 (z1.1 + (1 : Int))))) then some (.inr (.inr (65 : Int)))
     else some (.inl ((Go.IntKind.wrap .i64 (z1.1 + (1 : Int))), r4.1))
     else some (.inr (.inl ())))) : ∀ (m k i : Nat), k + m = 8 → i < l.length → ∃ r, loopC B ((k : Int), (i : Int)) = some r
  | m, k, i, hk, hi => by
    have hg : idx l (i : Int) = some l[i] := by rw [idx_nat, List.getElem?_eq_getElem hi]
    rw [loopC_step, hB]
    simp only [hg, Option.bind_some, rfind_eq l _ hl]
    by_cases hb : l[i].2.1 = []
    · simp only [hb, ne_eq, not_true_eq_false, decide_false, cond_false]
      exact ⟨_, rfl⟩
    · simp only [hb, ne_eq, not_false_eq_true, decide_true, cond_true]
      cases hf : fnd l l[i].2.1 with
      | none =>
        simp only [Bool.not_false, cond_true]
        by_cases h1 : (k : Int) = 1
        · simp only [h1, decide_true, cond_true]; exact ⟨_, rfl⟩
        · simp only [h1, decide_false, cond_false]; exact ⟨_, rfl⟩
      | some j =>
        simp only [Bool.not_true, cond_false]
        rw [wrapS (by omega)]
        cases m with
        | zero =>
          have : (8 : Int) < ((k + 1 : Nat) : Int) := by omega
          simp only [this, decide_true, cond_true]
          exact ⟨_, rfl⟩
        | succ m =>
          have : ¬ (8 : Int) < ((k + 1 : Nat) : Int) := by omega
          simp only [this, decide_false, cond_false, Option.bind_some]
          exact chain_tot l hl B hB m (k + 1) j (by omega) (fnd_lt l _ j hf)
theorem rchain_tot (l : List Sty) (hl : l.length < 9223372036854775807) (i : Nat) (hi : i < l.length) : ∃ r, folioref06_chain l (i : Int) = some r := by
  unfold folioref06_chain
  obtain ⟨r, e⟩ := chain_tot l hl _ (fun _ => rfl) 7 1 i rfl hi
  have e : loopC _ ((1 : Int), (i : Int)) = some r := e
  rw [e]
  cases r <;> exact ⟨_, rfl⟩
theorem rcheck_tot (l : List Sty) (hf : Fine l) : ∃ r, folioref06_Check l = some r := by
  obtain ⟨hlen, hall⟩ := hf
  unfold folioref06_Check
  by_cases h64 : (64 : Int) < ((l.length : Nat) : Int)
  · simp only [h64, decide_true, cond_true]
    exact ⟨_, rfl⟩
  · simp only [h64, decide_false, cond_false]
    have L1 := loop_all (B := fun z1 =>
     bif (decide (z1 < (((List.length l) : Nat) : Int))) then ((Go.Lf.idx l z1)).bind fun r2 =>
     ((Go.Fn.folioref06_Name r2.1)).bind fun r3 =>
     bif (!r3) then some (.inr (.inr (z1, (60 : Int))))
     else ((Go.Lf.idx l z1)).bind fun r4 =>
     ((Go.Fn.folioref06_Find l r4.1)).bind fun r5 =>
     bif (decide (r5.1 < z1)) then some (.inr (.inr (z1, (61 : Int))))
     else ((Go.Lf.idx l z1)).bind fun r6 =>
     ((Go.Fn.folioref06_own r6.2.2.1)).bind fun r7 =>
     bif (decide ((r7 : Int) ≠ (0 : Int))) then some (.inr (.inr (z1, r7)))
     else some (.inl (Go.IntKind.wrap .i64 (z1 + (1 : Int))))
     else some (.inr (.inl ()))) l.length (fun _ => True) (fun _ : Int × Int => True) (fun i hi => by
      have hg : idx l (i : Int) = some l[i] := by rw [idx_nat, List.getElem?_eq_getElem hi]
      have e1 : (i : Int) < ((l.length : Nat) : Int) := by omega
      obtain ⟨a1, a2, a3, a4⟩ := hall l[i] (List.getElem_mem hi)
      unfold lim at a1 a2
      simp only [e1, decide_true, cond_true, hg, Option.bind_some, rname_eq l[i].1 (by omega), rfind_eq l _ (show l.length < 9223372036854775807 by omega), own_eq]
      rw [wrapS (by omega)]
      cases okName l[i].1 with
      | false => exact .inr ⟨_, rfl, trivial⟩
      | true =>
        simp only [Bool.not_true, cond_false]
        have hd : ∀ d : Int × Bool, (∃ k, (bif decide (d.1 < (i : Int)) then some (.inr (.inr ((i : Int), (61 : Int)))) else bif (decide (chgS l[i].2.2.1 ≠ 0)) then some (.inr (.inr ((i : Int), chgS l[i].2.2.1))) else some (.inl ((i + 1 : Nat) : Int)) : Option (Int ⊕ (Unit ⊕ (Int × Int)))) = some (.inr (.inr k))) ∨ (bif decide (d.1 < (i : Int)) then some (.inr (.inr ((i : Int), (61 : Int)))) else bif (decide (chgS l[i].2.2.1 ≠ 0)) then some (.inr (.inr ((i : Int), chgS l[i].2.2.1))) else some (.inl ((i + 1 : Nat) : Int)) : Option (Int ⊕ (Unit ⊕ (Int × Int)))) = some (.inl ((i + 1 : Nat) : Int)) := fun d => by
          cases decide (d.1 < (i : Int)) with
          | true => exact .inl ⟨_, rfl⟩
          | false =>
            cases decide (chgS l[i].2.2.1 ≠ 0) with
            | true => exact .inl ⟨_, rfl⟩
            | false => exact .inr rfl
        rcases hd _ with ⟨k, h⟩ | h
        · exact .inr ⟨k, h, trivial⟩
        · exact .inl ⟨h, trivial⟩) (by simp) l.length 0 (by omega)
    rcases L1 with ⟨e, _⟩ | ⟨k, e, _⟩
    · have e : loopC _ (0 : Int) = _ := e
      rw [e]
      simp only [Option.bind_some, onSum]
      have L2 := loop_all (B := fun z10 =>
     bif (decide (z10 < (((List.length l) : Nat) : Int))) then ((Go.Fn.folioref06_chain l z10)).bind fun r11 =>
     bif (decide ((r11 : Int) ≠ (0 : Int))) then some (.inr (.inr (z10, r11)))
     else some (.inl (Go.IntKind.wrap .i64 (z10 + (1 : Int))))
     else some (.inr (.inl ()))) l.length (fun _ => True) (fun _ : Int × Int => True) (fun i hi => by
        have e1 : (i : Int) < ((l.length : Nat) : Int) := by omega
        obtain ⟨r, e⟩ := rchain_tot l (by omega) i hi
        simp only [e1, decide_true, cond_true, e, Option.bind_some]
        rw [wrapS (by omega)]
        cases decide (r ≠ 0) with
        | true => exact .inr ⟨_, rfl, trivial⟩
        | false => exact .inl ⟨rfl, trivial⟩) (by simp) l.length 0 (by omega)
      rcases L2 with ⟨e2, _⟩ | ⟨k, e2, _⟩
      · have e2 : loopC _ (0 : Int) = _ := e2
        rw [e2]
        exact ⟨_, rfl⟩
      · have e2 : loopC _ (0 : Int) = _ := e2
        rw [e2]
        exact ⟨_, rfl⟩
    · have e : loopC _ (0 : Int) = _ := e
      rw [e]
      exact ⟨_, rfl⟩

/-- names, one within another -/
noncomputable def nst (l : List Sty) : List Bs → Lok → Option Lok
  | [], k => some k
  | n :: r, k => match fnd l n with
    | none => none
    | some i => match style_whole l (i : Int) with
      | some c => nst l r (applyS k c)
      | none => none
theorem nst_cons (l : List Sty) (n : Bs) (r : List Bs) (k : Lok) : nst l (n :: r) k = match fnd l n with
    | none => none
    | some i => match style_whole l (i : Int) with
      | some c => nst l r (applyS k c)
      | none => none := rfl
theorem nst_app (l : List Sty) : ∀ (a b : List Bs) (k : Lok), nst l (a ++ b) k = (nst l a k).bind (nst l b)
  | [], b, k => rfl
  | n :: a, b, k => by
    rw [List.cons_append, nst_cons, nst_cons]
    cases fnd l n with
    | none => rfl
    | some i =>
      dsimp only
      cases style_whole l (i : Int) with
      | none => rfl
      | some c => exact nst_app l a b _
theorem bv_idem (l a b : BitVec 64) : ((((l ||| a) &&& ~~~b) ||| a) &&& ~~~b) = ((l ||| a) &&& ~~~b) := by
  apply BitVec.eq_of_getLsbD_eq
  intro i hi
  simp only [BitVec.getLsbD_or, BitVec.getLsbD_and, BitVec.getLsbD_not, hi, decide_true, Bool.true_and]
  generalize l.getLsbD i = l
  generalize a.getLsbD i = a
  generalize b.getLsbD i = b
  cases l <;> cases a <;> cases b <;> decide
theorem apply_idem (k : Lok) (c : Chg) : applyS (applyS k c) c = applyS k c := by
  unfold applyS
  simp only [num_inj, bv_idem]
  by_cases h : c.2.2.1 = -1 <;> simp [h]
def dbl : List Bs → List Bs
  | [] => []
  | n :: r => n :: n :: dbl r
theorem dbl_len : ∀ a : List Bs, (dbl a).length = 2 * a.length
  | [] => rfl
  | n :: r => by unfold dbl; simp only [List.length_cons]; rw [dbl_len r]; omega
theorem nst_dbl (l : List Sty) : ∀ (a : List Bs) (k : Lok), nst l (dbl a) k = nst l a k
  | [], k => rfl
  | n :: r, k => by
    unfold dbl
    rw [nst_cons, nst_cons]
    cases h : fnd l n with
    | none => rfl
    | some i =>
      dsimp only
      cases h2 : style_whole l (i : Int) with
      | none => rfl
      | some c =>
        dsimp only
        rw [nst_cons, h]
        dsimp only
        rw [h2]
        dsimp only
        rw [apply_idem, nst_dbl l r]
section
variable (l : List Sty) (hl : l.length < 9223372036854775807) (hw : ∀ i, i < l.length → ∃ r, style_whole l (i : Int) = some r)
include hl hw
theorem nest_eq (p : Int) (hc : style_Check l = some (p, 0)) (ns : List Bs) (hn : ns.length ≤ 32) : ∃ r, style_Nest l ns = some r ∧ (match nst l ns (0, 7, ()) with | some k => r = (k, 0, 0) | none => r.2.2 = 66) := by
  unfold style_Nest
  have h32 : ¬ (32 : Int) < ((ns.length : Nat) : Int) := by omega
  simp only [hc, Option.bind_some, ne_eq, not_true_eq_false, decide_false, cond_false, h32]
  have key : ∀ (B : Int × Lok × Lok → Option ((Int × Lok × Lok) ⊕ ((Lok × Lok) ⊕ (Int × Int × Lok)))) (hB : ∀ z2, B z2 = (bif (decide (z2.1 < (((List.length ns) : Nat) : Int))) then ((Go.Lf.idx ns z2.1)).bind fun r3 =>
     ((Go.Fn.style_Find l r3)).bind fun r4 =>
     bif (!r4.2) then some (.inr (.inr (z2.1, ((66 : Int), ((0 : Int), ((0 : Int), ()))))))
     else ((Go.Fn.style_whole l r4.1)).bind fun r5 =>
     ((Go.Fn.style_Apply z2.2.2 r5)).bind fun r6 =>
     some (.inl ((Go.IntKind.wrap .i64 (z2.1 + (1 : Int))), (z2.2.1, r6)))
     else some (.inr (.inl (z2.2.1, z2.2.2))))) (z0 : Lok) (m i : Nat) (k : Lok), i + m = ns.length → ∃ r, loopC B ((i : Int), z0, k) = some r ∧ (match nst l (ns.drop i) k with | some k' => r = .inl (z0, k') | none => ∃ j, r = .inr (j, 66, (0, 0, ()))) := fun B hB z0 m => by
    induction m with
    | zero =>
      intro i k h
      have : i = ns.length := by omega
      subst this
      rw [loopC_step, hB, List.drop_length]
      simp only [Int.lt_irrefl, decide_false, cond_false, Option.bind_some]
      exact ⟨_, rfl, rfl⟩
    | succ m ih =>
      intro i k h
      have hi : i < ns.length := by omega
      have hg : idx ns (i : Int) = some ns[i] := by rw [idx_nat, List.getElem?_eq_getElem hi]
      have e1 : (i : Int) < ((ns.length : Nat) : Int) := by omega
      rw [loopC_step, hB, List.drop_eq_getElem_cons hi, nst_cons]
      simp only [e1, decide_true, cond_true, hg, Option.bind_some, sfind_eq l _ hl]
      cases hf : fnd l ns[i] with
      | none => exact ⟨_, rfl, (i : Int), rfl⟩
      | some j =>
        obtain ⟨c, hcw⟩ := hw j (fnd_lt l _ j hf)
        simp only [Bool.not_true, cond_false, hcw, Option.bind_some, apply_eq]
        rw [wrapS (by omega)]
        exact ih (i + 1) _ (by omega)
  obtain ⟨r, e, h⟩ := key _ (fun _ => rfl) (0, 0, ()) ns.length 0 (0, 7, ()) (by omega)
  have e : loopC _ ((0 : Int), ((0 : Int), (0 : Int), ()), ((0 : Int), (7 : Int), ())) = some r := e
  rw [e]
  rw [List.drop_zero] at h
  cases hk : nst l ns (0, 7, ()) with
  | some k =>
    rw [hk] at h
    have h : r = _ := h
    subst h
    exact ⟨_, rfl, rfl⟩
  | none =>
    rw [hk] at h
    obtain ⟨j, h⟩ : ∃ j, r = .inr (j, 66, (0, 0, ())) := h
    subst h
    exact ⟨_, rfl, rfl⟩
end
end Go.Fn
