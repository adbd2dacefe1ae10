/- The plain law of IrSheets. -/
import Derived.Test.YtjpejkeobcdobaaGreatDoorQAF
namespace Go.Fn
open Go Go.Lf
theorem check_tot (l : List Sty) (hf : Fine l) : style_Check l = some (0, 0) ∨ style_Check l = some (0, 2) ∨ ∃ p c, style_Check l = some (p, c) ∧ c ≠ 0 ∧ ∃ i : Nat, i < l.length ∧ p = (i : Int) := by
  obtain ⟨hlen, hall⟩ := hf
  unfold style_Check
  by_cases h64 : (64 : Int) < ((l.length : Nat) : Int)
  · simp only [h64, decide_true, cond_true]
    exact .inr (.inl trivial)
  · simp only [h64, decide_false, cond_false]
    have L1 := loop_all (B := fun z1 =>
     bif (decide (z1 < (((List.length l) : Nat) : Int))) then ((Go.Lf.idx l z1)).bind fun r2 =>
     ((Go.Fn.style_named r2.1)).bind fun r3 =>
     bif (!r3) then some (.inr (.inr (z1, (60 : Int))))
     else ((Go.Lf.sub l (0 : Int) z1)).bind fun r4 =>
     ((Go.Fn.style_Find r4 r2.1)).bind fun r5 =>
     bif r5.2 then some (.inr (.inr (z1, (61 : Int))))
     else ((Go.Fn.style_change r2.2.2.1)).bind fun r6 =>
     bif (decide ((r6 : Int) ≠ (0 : Int))) then some (.inr (.inr (z1, r6)))
     else some (.inl (Go.IntKind.wrap .i64 (z1 + (1 : Int))))
     else some (.inr (.inl ()))) l.length (fun _ => True) (fun k : Int × Int => k.2 ≠ 0 ∧ ∃ i : Nat, i < l.length ∧ k.1 = (i : Int)) (fun i hi => by
      have hg : idx l (i : Int) = some l[i] := by rw [idx_nat, List.getElem?_eq_getElem hi]
      have e1 : (i : Int) < ((l.length : Nat) : Int) := by omega
      obtain ⟨a1, a2, a3, a4⟩ := hall l[i] (List.getElem_mem hi)
      unfold lim at a1 a2
      have hsub : sub l 0 (i : Int) = some (l.take i) := by
        have := sub_nat (l := l) (a := 0) (b := i) (by omega) (by omega)
        simpa using this
      simp only [e1, decide_true, cond_true, hg, Option.bind_some, named_eq l[i].1 (by omega), hsub, sfind_eq (l.take i) _ (by simp; omega), change_eq _ ⟨a3, a4⟩]
      cases okName l[i].1 with
      | false => exact .inr ⟨_, rfl, (show (60 : Int) ≠ 0 by decide), i, hi, rfl⟩
      | true =>
        simp only [Bool.not_true, cond_false]
        cases fnd (l.take i) l[i].1 with
        | some j => exact .inr ⟨_, rfl, (show (61 : Int) ≠ 0 by decide), i, hi, rfl⟩
        | none =>
          by_cases hc : chgS l[i].2.2.1 = 0
          · simp only [hc, ne_eq, not_true_eq_false, decide_false, cond_false]
            rw [wrapS (by omega)]
            exact .inl ⟨rfl, trivial⟩
          · simp only [hc, ne_eq, not_false_eq_true, decide_true, cond_true, cond_false]
            exact .inr ⟨_, rfl, hc, i, hi, rfl⟩) (by simp) l.length 0 (by omega)
    rcases L1 with ⟨e, _⟩ | ⟨k, e, hq⟩
    · have e : loopC _ (0 : Int) = _ := e
      rw [e]
      simp only [Option.bind_some, onSum]
      have L2 := loop_all (B := fun z9 =>
     bif (decide (z9 < (((List.length l) : Nat) : Int))) then (((Go.Lf.idx l z9)).bind fun r10 =>
       bif (decide ((r10.2.1 : List (UInt8)) = ([] : List (UInt8)))) then some (.inl ())
       else ((Go.Fn.style_Find l r10.2.1)).bind fun r11 =>
       bif (!r11.2) then some (.inr (z9, (64 : Int)))
       else ((Go.Fn.style_ends l z9)).bind fun r12 =>
       bif (!r12) then some (.inr (z9, (65 : Int)))
       else some (.inl ()) : Option ((Unit) ⊕ ((Int) × (Int)))).bind fun r13 =>
     Go.Lf.onSum r13 (fun a14 =>
     some (.inl (Go.IntKind.wrap .i64 (z9 + (1 : Int))))) (fun b15 =>
     some (.inr (.inr (b15.1, b15.2))))
     else some (.inr (.inl ()))) l.length (fun _ => True) (fun k : Int × Int => k.2 ≠ 0 ∧ ∃ i : Nat, i < l.length ∧ k.1 = (i : Int)) (fun i hi => by
        have hg : idx l (i : Int) = some l[i] := by rw [idx_nat, List.getElem?_eq_getElem hi]
        have e1 : (i : Int) < ((l.length : Nat) : Int) := by omega
        simp only [e1, decide_true, cond_true, hg, Option.bind_some, sfind_eq l _ (show l.length < 9223372036854775807 by omega)]
        by_cases hb : l[i].2.1 = []
        · simp only [hb, decide_true, cond_true, Option.bind_some, onSum]
          rw [wrapS (by omega)]
          exact .inl ⟨rfl, trivial⟩
        · simp only [hb, decide_false, cond_false]
          cases hf : fnd l l[i].2.1 with
          | none => exact .inr ⟨_, rfl, (show (64 : Int) ≠ 0 by decide), i, hi, rfl⟩
          | some j =>
            have e := sends_eq l (by omega) i hi
            simp only [Bool.not_true, cond_false, e, Option.bind_some]
            cases endsS l 8 i with
            | false => exact .inr ⟨_, rfl, (show (65 : Int) ≠ 0 by decide), i, hi, rfl⟩
            | true =>
              simp only [Bool.not_true, cond_false, Option.bind_some, onSum]
              rw [wrapS (by omega)]
              exact .inl ⟨rfl, trivial⟩) (by simp) l.length 0 (by omega)
      rcases L2 with ⟨e2, hp⟩ | ⟨k, e2, hq⟩
      · have e2 : loopC _ (0 : Int) = _ := e2
        simp only [onSum] at e2
        rw [e2]
        exact .inl rfl
      · have e2 : loopC _ (0 : Int) = _ := e2
        simp only [onSum] at e2
        rw [e2]
        exact .inr (.inr ⟨_, _, rfl, hq⟩)
    · have e : loopC _ (0 : Int) = _ := e
      rw [e]
      exact .inr (.inr ⟨_, _, rfl, hq⟩)

theorem loop_st {σ κ : Type} {B : σ → Option (σ ⊕ κ)} (st : Nat → σ) (ok : Nat → Prop) (Q : κ → Prop) (n : Nat) (kf : κ) (h1 : ∀ i, i < n → (ok i ∧ B (st i) = some (.inl (st (i + 1)))) ∨ ∃ k, B (st i) = some (.inr k) ∧ Q k) (h2 : B (st n) = some (.inr kf)) :
    ∀ m i, i + m = n → ((∀ j, i ≤ j → j < n → ok j) ∧ loopC B (st i) = some kf) ∨ ∃ k, loopC B (st i) = some k ∧ Q k
  | 0, i, h => by
    have : i = n := by omega
    subst this
    exact .inl ⟨fun j _ _ => by omega, by rw [loopC_step, h2]; rfl⟩
  | m + 1, i, h => by
    rcases h1 i (by omega) with ⟨ho, hb⟩ | ⟨k, hb, hq⟩
    · have e : loopC B (st i) = loopC B (st (i + 1)) := by rw [loopC_step, hb]; rfl
      rcases loop_st st ok Q n kf h1 h2 m (i + 1) (by omega) with ⟨g1, g2⟩ | ⟨k, g1, g2⟩
      · refine .inl ⟨fun j hj hn => ?_, by rw [e]; exact g2⟩
        by_cases hji : j = i
        · subst hji; exact ho
        · exact g1 j (by omega) hn
      · exact .inr ⟨k, by rw [e]; exact g1, g2⟩
    · exact .inr ⟨k, by rw [loopC_step, hb]; rfl, hq⟩
theorem ltD {i n : Nat} (h : i < n) : decide ((i : Int) < (n : Int)) = true := decide_eq_true (by omega)
theorem nltD {n : Nat} : decide ((n : Int) < (n : Int)) = false := decide_eq_false (by omega)
theorem takeS {α : Type} (l : List α) (i : Nat) (h : i < l.length) : l.take (i + 1) = l.take i ++ [l[i]] := by
  rw [List.take_add_one, List.getElem?_eq_getElem h]; rfl

/-- a source's styles, and the rest -/
abbrev DefT := List UInt8 × (Int × Unit)
abbrev FltT := Int × (Int × (Int × (Int × (List UInt8 × (List (List UInt8 × (Int × Unit)) × Unit)))))
def pz (d : DefT) : Sty := (parse d.1).1
def mkF (i : Nat) (d : DefT) : FltT := (0, ((i : Int), (d.2.1, (0, ([], ([], ()))))))
def okD (d : DefT) : Prop := (parse d.1).2 = 0
section
variable {τ : Type} (l : List (List DefT × τ))
def shN : Nat → List Sty
  | 0 => BASE
  | i + 1 => shN i ++ (match l[i]? with | some s => s.1.map pz | none => [])
def frN : Nat → List FltT
  | 0 => []
  | i + 1 => frN i ++ (match l[i]? with | some s => s.1.map (mkF i) | none => [])
def many : Nat := (l.map fun s => s.1.length).sum
theorem shN_succ {i : Nat} (h : i < l.length) : shN l (i + 1) = shN l i ++ l[i].1.map pz := by
  rw [shN, List.getElem?_eq_getElem h]
theorem frN_succ {i : Nat} (h : i < l.length) : frN l (i + 1) = frN l i ++ l[i].1.map (mkF i) := by
  rw [frN, List.getElem?_eq_getElem h]
theorem len_N : ∀ i, i ≤ l.length → (shN l i).length = 6 + (frN l i).length ∧ (frN l i).length = ((l.take i).map fun s => s.1.length).sum
  | 0, _ => ⟨rfl, rfl⟩
  | i + 1, h => by
    have ih := len_N i (by omega)
    have hi : i < l.length := by omega
    rw [shN_succ l hi, frN_succ l hi, takeS l i hi]
    simp only [List.length_append, List.length_map, List.map_append, List.sum_append, List.map_cons, List.map_nil, List.sum_cons, List.sum_nil]
    omega
theorem frN_le (i : Nat) (h : i < l.length) : (frN l i).length + l[i].1.length ≤ many l := by
  have h1 := (len_N l i (by omega)).2
  unfold many
  have h2 : (l.map fun s => s.1.length).sum = ((l.take i).map fun s => s.1.length).sum + ((l.drop i).map fun s => s.1.length).sum := by
    rw [← List.sum_append, ← List.map_append, List.take_append_drop]
  rw [h2, List.drop_eq_getElem_cons h]
  simp only [List.map_cons, List.sum_cons]
  omega
end
theorem loop_fn0S {κ : Type} {B : Int → Option (Int ⊕ κ)} (n : Nat) (k : κ) (h1 : ∀ i : Nat, i < n → B (i : Int) = some (.inl ((i + 1 : Nat) : Int))) (h2 : B (n : Int) = some (.inr k)) :
    ∀ m i : Nat, i + m = n → loopC B (i : Int) = some k
  | 0, i, h => by
    have : i = n := by omega
    subst this
    rw [loopC_step, h2]; rfl
  | m + 1, i, h => by
    rw [loopC_step, h1 i (by omega)]
    exact loop_fn0S n k h1 h2 m (i + 1) (by omega)
theorem bind_at {α β : Type} {x : Option α} {y : α} {f : α → Option β} (h : x = some y) : x.bind f = f y := by rw [h]; rfl
theorem sbase_eq : style_Base = some BASE := by
  unfold style_Base
  refine (bind_at (y := BASE) (Le.loop (n := 10) (fun _ => Le.refl) _ ?_)).trans rfl
  kernel_rfl
theorem new_of {c a b d : Int} {w : List UInt8} (h : c ≠ 0) : ∃ e, fault_New c a b d w = some (some e) := by
  unfold fault_New
  rw [decide_eq_false h, cond_false]
  exact ⟨_, rfl⟩
theorem mul_le_of {a b c : Nat} (h : a ≤ b) (hb : b * c ≤ 140737488355328) : a * c ≤ 140737488355328 := Nat.le_trans (Nat.mul_le_mul_right c h) hb
section
variable {τ : Type} (l : List (List DefT × τ)) (h1 : l.length ≤ 1048576) (h2 : many l ≤ 1048576)
include h1 h2
/-- the styles of the sources, behind the base; or the fault -/
theorem sheet_loops (B : (List FltT × (List Sty × Int)) → Option ((List FltT × (List Sty × Int)) ⊕ ((List Sty × List FltT) ⊕ (List Sty × Option (Int × (FltT × Unit))))))
    (hB : ∀ z2, B z2 = bif (decide (z2.2.2 < (((List.length l) : Nat) : Int))) then ((Go.Lf.idx l z2.2.2)).bind fun r3 =>
     (Go.Lf.loopC (σ := (Int) × ((List FltT) × (List Sty))) (κ := ((List FltT) × (List Sty)) ⊕ ((List Sty) × (Option (Int × (FltT × Unit))))) (fun z4 =>
         bif (decide (z4.1 < (((List.length r3.1) : Nat) : Int))) then ((Go.Lf.idx r3.1 z4.1)).bind fun r5 =>
         ((Go.Fn.style_Parse r5.1)).bind fun r6 =>
         bif (decide ((r6.2 : Int) ≠ (0 : Int))) then ((Go.Fn.fault_New r6.2 z2.2.2 r5.2.1 (0 : Int) r5.1)).bind fun r7 =>
         some (.inr (.inr (([] : List Sty), r7)))
         else ((Go.Lf.app (56 : Nat) z4.2.2 (r6.1 :: ([] : List Sty)))).bind fun r8 =>
         ((Go.Lf.app (72 : Nat) z4.2.1 (((0 : Int), (z2.2.2, (r5.2.1, ((0 : Int), (([] : List (UInt8)), (([] : List ((List (UInt8)) × ((Int) × (Unit)))), ())))))) :: ([] : List FltT)))).bind fun r9 =>
         some (.inl ((Go.IntKind.wrap .i64 (z4.1 + (1 : Int))), (r9, r8)))
         else some (.inr (.inl (z4.2.1, z4.2.2)))) ((0 : Int), (z2.1, z2.2.1)) : Option (((List FltT) × (List Sty)) ⊕ ((List Sty) × (Option (Int × (FltT × Unit)))))).bind fun r10 =>
     Go.Lf.onSum r10 (fun a11 =>
     some (.inl (a11.1, (a11.2, (Go.IntKind.wrap .i64 (z2.2.2 + (1 : Int))))))) (fun b12 =>
     some (.inr (.inr (b12.1, b12.2))))
     else some (.inr (.inl (z2.2.1, z2.1)))) :
    ((∀ (i : Nat) (hi : i < l.length), ∀ d ∈ l[i].1, okD d) ∧ loopC B (([] : List FltT), (BASE, (0 : Int))) = some (.inl (shN l l.length, frN l l.length))) ∨ ∃ e, loopC B (([] : List FltT), (BASE, (0 : Int))) = some (.inr ([], some e)) := by
  have key := loop_st (B := B) (fun i => (frN l i, (shN l i, (i : Int)))) (fun i => ∀ hi : i < l.length, ∀ d ∈ (l[i]'hi).1, okD d) (fun k => ∃ e, k = .inr ([], some e)) l.length (.inl (shN l l.length, frN l l.length)) ?_ ?_ l.length 0 (by omega)
  · rcases key with ⟨g1, g2⟩ | ⟨k, g1, e, rfl⟩
    · exact .inl ⟨fun i hi => g1 i (Nat.zero_le _) hi hi, g2⟩
    · exact .inr ⟨e, g1⟩
  · intro i hi
    have hfr := frN_le l i hi
    have hN := len_N l i (by omega)
    rw [hB]
    simp only [ltD hi, cond_true, idx_nat, List.getElem?_eq_getElem hi, Option.bind_some]
    have inner := loop_st (B := fun z4 : Int × (List FltT × List Sty) =>
         bif (decide (z4.1 < (((List.length l[i].1) : Nat) : Int))) then ((Go.Lf.idx l[i].1 z4.1)).bind fun r5 =>
         ((Go.Fn.style_Parse r5.1)).bind fun r6 =>
         bif (decide ((r6.2 : Int) ≠ (0 : Int))) then ((Go.Fn.fault_New r6.2 (i : Int) r5.2.1 (0 : Int) r5.1)).bind fun r7 =>
         some (.inr (.inr (([] : List Sty), r7)))
         else ((Go.Lf.app (56 : Nat) z4.2.2 (r6.1 :: ([] : List Sty)))).bind fun r8 =>
         ((Go.Lf.app (72 : Nat) z4.2.1 (((0 : Int), ((i : Int), (r5.2.1, ((0 : Int), (([] : List (UInt8)), (([] : List ((List (UInt8)) × ((Int) × (Unit)))), ())))))) :: ([] : List FltT)))).bind fun r9 =>
         some (.inl ((Go.IntKind.wrap .i64 (z4.1 + (1 : Int))), (r9, r8)))
         else some (.inr (.inl (z4.2.1, z4.2.2)))) (fun j => ((j : Int), (frN l i ++ (l[i].1.take j).map (mkF i), shN l i ++ (l[i].1.take j).map pz))) (fun j => ∀ hj : j < l[i].1.length, okD (l[i].1[j]'hj)) (fun k : (List FltT × List Sty) ⊕ (List Sty × Option (Int × (FltT × Unit))) => ∃ e, k = .inr ([], some e)) l[i].1.length (.inl (frN l i ++ l[i].1.map (mkF i), shN l i ++ l[i].1.map pz)) ?_ ?_ l[i].1.length 0 (by omega)
    · have e0 : ((0 : Int), (frN l i, shN l i)) = (((0 : Nat) : Int), (frN l i ++ (l[i].1.take 0).map (mkF i), shN l i ++ (l[i].1.take 0).map pz)) := by simp
      rw [e0]
      rcases inner with ⟨g1, g2⟩ | ⟨k, g1, e, rfl⟩
      · refine .inl ⟨fun _ d hd => ?_, ?_⟩
        · obtain ⟨j, hj, rfl⟩ := List.getElem_of_mem hd
          exact g1 j (Nat.zero_le _) hj hj
        · rw [g2, Option.bind_some]
          simp only [onSum]
          rw [wrapS (by omega), frN_succ l hi, shN_succ l hi]
      · refine .inr ⟨_, by rw [g1]; rfl, e, rfl⟩
    · intro j hj
      have hpos : (l[i].1.take j).length = j := by rw [List.length_take]; omega
      simp only [ltD hj, cond_true, idx_nat, List.getElem?_eq_getElem hj, Option.bind_some, sparse_eq]
      by_cases hok : (parse l[i].1[j].1).2 = 0
      · refine .inl ⟨fun _ => hok, ?_⟩
        rw [decide_eq_false (fun h => h hok), cond_false, app_of (by
          simp only [List.length_append, List.length_map, hpos, List.length_cons, List.length_nil]; omega), Option.bind_some, app_of (by
          simp only [List.length_append, List.length_map, hpos, List.length_cons, List.length_nil]; omega), Option.bind_some, wrapS (by omega), takeS _ j hj]
        simp only [List.map_append, List.map_cons, List.map_nil, List.append_assoc]
        rfl
      · refine .inr ?_
        obtain ⟨e, he⟩ := new_of (a := (i : Int)) (b := l[i].1[j].2.1) (d := 0) (w := l[i].1[j].1) hok
        rw [decide_eq_true hok, cond_true, he]
        exact ⟨_, rfl, e, rfl⟩
    · simp only [nltD, cond_false, List.take_length]
  · rw [hB]
    simp only [nltD, cond_false]
theorem rsheet_loops (hok : ∀ (i : Nat) (hi : i < l.length), ∀ d ∈ l[i].1, okD d) (B : (List Sty × Int) → Option ((List Sty × Int) ⊕ (List Sty ⊕ Bool)))
    (hB : ∀ z4, B z4 = bif (decide (z4.2 < (((List.length l) : Nat) : Int))) then ((Go.Lf.idx l z4.2)).bind fun r5 =>
     (Go.Lf.loopC (σ := (Int) × (List Sty)) (κ := (List Sty) ⊕ (Bool)) (fun z6 =>
         bif (decide (z6.1 < (((List.length r5.1) : Nat) : Int))) then ((Go.Lf.idx r5.1 z6.1)).bind fun r7 =>
         ((Go.Fn.folioref06_Parse r7.1)).bind fun r8 =>
         bif (decide ((r8.2 : Int) ≠ (0 : Int))) then some (.inr (.inr false))
         else ((Go.Lf.app (56 : Nat) z6.2 (r8.1 :: ([] : List Sty)))).bind fun r9 =>
         some (.inl ((Go.IntKind.wrap .i64 (z6.1 + (1 : Int))), r9))
         else some (.inr (.inl z6.2))) ((0 : Int), z4.1) : Option ((List Sty) ⊕ (Bool))).bind fun r10 =>
     Go.Lf.onSum r10 (fun a11 =>
     some (.inl (a11, (Go.IntKind.wrap .i64 (z4.2 + (1 : Int)))))) (fun b12 =>
     some (.inr (.inr b12)))
     else some (.inr (.inl z4.1))) : loopC B (BASE, (0 : Int)) = some (.inl (shN l l.length)) := by
  have key := loop_st (B := B) (fun i => (shN l i, (i : Int))) (fun _ => True) (fun _ => False) l.length (.inl (shN l l.length)) ?_ ?_ l.length 0 (by omega)
  · rcases key with ⟨_, g2⟩ | ⟨k, g1, e⟩
    · exact g2
    · exact e.elim
  · intro i hi
    have hfr := frN_le l i hi
    have hN := len_N l i (by omega)
    rw [hB]
    simp only [ltD hi, cond_true, idx_nat, List.getElem?_eq_getElem hi, Option.bind_some]
    have inner := loop_st (B := fun z6 : Int × List Sty =>
         bif (decide (z6.1 < (((List.length l[i].1) : Nat) : Int))) then ((Go.Lf.idx l[i].1 z6.1)).bind fun r7 =>
         ((Go.Fn.folioref06_Parse r7.1)).bind fun r8 =>
         bif (decide ((r8.2 : Int) ≠ (0 : Int))) then some (.inr (.inr false))
         else ((Go.Lf.app (56 : Nat) z6.2 (r8.1 :: ([] : List Sty)))).bind fun r9 =>
         some (.inl ((Go.IntKind.wrap .i64 (z6.1 + (1 : Int))), r9))
         else some (.inr (.inl z6.2))) (fun j => ((j : Int), shN l i ++ (l[i].1.take j).map pz)) (fun _ => True) (fun _ : List Sty ⊕ Bool => False) l[i].1.length (.inl (shN l i ++ l[i].1.map pz)) ?_ ?_ l[i].1.length 0 (by omega)
    · have e0 : ((0 : Int), shN l i) = (((0 : Nat) : Int), shN l i ++ (l[i].1.take 0).map pz) := by simp
      rw [e0]
      rcases inner with ⟨_, g2⟩ | ⟨k, _, e⟩
      · refine .inl ⟨trivial, ?_⟩
        rw [g2, Option.bind_some]
        simp only [onSum]
        rw [wrapS (by omega), shN_succ l hi]
      · exact e.elim
    · intro j hj
      have hpos : (l[i].1.take j).length = j := by rw [List.length_take]; omega
      have hk : (parse l[i].1[j].1).2 = 0 := hok i hi _ (List.getElem_mem hj)
      refine .inl ⟨trivial, ?_⟩
      simp only [ltD hj, cond_true, idx_nat, List.getElem?_eq_getElem hj, Option.bind_some, rparse_eq]
      rw [decide_eq_false (fun h => h hk), cond_false, app_of (by
          simp only [List.length_append, List.length_map, hpos, List.length_cons, List.length_nil]; omega), Option.bind_some, wrapS (by omega), takeS _ j hj]
      simp only [List.map_append, List.map_cons, List.map_nil, List.append_assoc]
      rfl
    · simp only [nltD, cond_false, List.take_length]
  · rw [hB]
    simp only [nltD, cond_false]
end
theorem shN_fine {τ : Type} (l : List (List DefT × τ)) (h2 : many l ≤ 1048576) (hok : ∀ (i : Nat) (hi : i < l.length), ∀ d ∈ l[i].1, okD d) : ∀ i, i ≤ l.length → ∀ s ∈ shN l i, s.1.length ≤ lim ∧ s.2.1.length ≤ lim ∧ Fits s.2.2.1.1 ∧ Fits s.2.2.1.2.1
  | 0, _ => base_fine
  | i + 1, h => fun s hs => by
    have hi : i < l.length := by omega
    rw [shN_succ l hi] at hs
    rcases List.mem_append.1 hs with hs | hs
    · exact shN_fine l h2 hok i (by omega) s hs
    · obtain ⟨d, hd, rfl⟩ := List.mem_map.1 hs
      obtain ⟨p1, p2, p3⟩ := parse_ok (hok i hi d hd)
      have e1 : IntKind.i64.min = -9223372036854775808 := by decide
      have e2 : IntKind.i64.max = 9223372036854775807 := by decide
      have hlim : ∀ w : List UInt8, okName w = true → w.length ≤ lim := fun w hw => by
        unfold okName at hw
        simp only [Bool.and_eq_true, decide_eq_true_eq] at hw
        unfold lim
        omega
      obtain ⟨g1, g2, _⟩ := p3
      refine ⟨hlim _ p1, ?_, ?_, ?_⟩
      · rcases p2 with p2 | p2
        · show (parse d.1).1.2.1.length ≤ lim
          rw [p2]; exact Nat.zero_le _
        · exact hlim _ p2
      · show IntKind.i64.min ≤ (parse d.1).1.2.2.1.1 ∧ (parse d.1).1.2.2.1.1 ≤ IntKind.i64.max
        omega
      · show IntKind.i64.min ≤ (parse d.1).1.2.2.1.2.1 ∧ (parse d.1).1.2.2.1.2.1 ≤ IntKind.i64.max
        omega
theorem sheets_refl (l : List Sty) (h : l.length ≤ 140737488351300) : foliolaw11_sheets l l = some true := by
  unfold foliolaw11_sheets
  rw [decide_eq_false (fun h => h rfl), cond_false]
  have key := loop_fn0S (B := fun z1 =>
     bif (decide (z1 < (((List.length l) : Nat) : Int))) then (((Go.Lf.idx l z1)).bind fun r2 =>
       ((Go.Lf.idx l z1)).bind fun r3 =>
       bif (!(decide ((r2.1 : List (UInt8)) ≠ r3.1))) then ((Go.Lf.idx l z1)).bind fun r4 =>
       ((Go.Lf.idx l z1)).bind fun r5 =>
       bif (!(decide ((r4.2.1 : List (UInt8)) ≠ r5.2.1))) then ((Go.Lf.idx l z1)).bind fun r6 =>
       ((Go.Lf.idx l z1)).bind fun r7 =>
       bif (!(decide ((r6.2.2.1.1 : Int) ≠ r7.2.2.1.1))) then ((Go.Lf.idx l z1)).bind fun r8 =>
       ((Go.Lf.idx l z1)).bind fun r9 =>
       bif (!(decide ((r8.2.2.1.2.1 : Int) ≠ r9.2.2.1.2.1))) then ((Go.Lf.idx l z1)).bind fun r10 =>
       ((Go.Lf.idx l z1)).bind fun r11 =>
       some (decide ((r10.2.2.1.2.2.1 : Int) ≠ r11.2.2.1.2.2.1))
       else some true
       else some true
       else some true
       else some true).bind fun r12 =>
     bif r12 then some (.inr (.inr false))
     else some (.inl (Go.IntKind.wrap .i64 (z1 + (1 : Int))))
     else some (.inr (.inl ()) : (Int ⊕ (Unit ⊕ Bool)))) l.length (.inl ()) ?_ ?_ l.length 0 (by omega)
  · have key : loopC _ (0 : Int) = _ := key
    rw [key]; rfl
  · intro i hi
    simp only [ltD hi, cond_true, idx_nat, List.getElem?_eq_getElem hi, Option.bind_some, ne_eq, not_true_eq_false, decide_false, Bool.not_false, cond_false]
    rw [wrapS (by omega)]
  · simp only [nltD, cond_false]
theorem sheet_eq {τ : Type} (l : List (List DefT × τ)) (h1 : l.length ≤ 1048576) (h2 : many l ≤ 1048576) (B : (List FltT × (List Sty × Int)) → Option ((List FltT × (List Sty × Int)) ⊕ ((List Sty × List FltT) ⊕ (List Sty × Option (Int × (FltT × Unit))))))
    (hl : ((∀ (i : Nat) (hi : i < l.length), ∀ d ∈ l[i].1, okD d) ∧ loopC B (([] : List FltT), (BASE, (0 : Int))) = some (.inl (shN l l.length, frN l l.length))) ∨ ∃ e, loopC B (([] : List FltT), (BASE, (0 : Int))) = some (.inr ([], some e))) :
    (∃ e, ((loopC B (([] : List FltT), (BASE, (0 : Int)))).bind fun r13 =>
 Go.Lf.onSum r13 (fun a14 =>
 ((Go.Fn.style_Check a14.1)).bind fun r15 =>
 bif (decide ((r15.2 : Int) = (0 : Int))) then some (a14.1, (none : Option (Int × (FltT × Unit))))
 else (bif (!(decide ((r15.2 : Int) = (2 : Int)))) then some ((decide (r15.1 < (((List.length BASE) : Nat) : Int))), (a14.1, a14.2))
   else some (true, (a14.1, a14.2))).bind fun r16 =>
 bif r16.1 then (((Go.Fn.fault_New r15.2 (0 : Int) (0 : Int) (0 : Int) ([] : List (UInt8)))).bind fun r17 =>
   some r17).bind fun r18 =>
 some (([] : List Sty), r18)
 else ((Go.Lf.idx r16.2.2 (Go.IntKind.wrap .i64 (r15.1 - (((List.length BASE) : Nat) : Int))))).bind fun r19 =>
 ((Go.Lf.idx r16.2.1 r15.1)).bind fun r20 =>
 ((Go.Fn.fault_New r15.2 r19.2.1 r19.2.2.1 (0 : Int) r20.1)).bind fun r21 =>
 some (([] : List Sty), r21)) (fun b22 =>
 some (b22.1, b22.2))) = some ([], some e)) ∨ ((∀ (i : Nat) (hi : i < l.length), ∀ d ∈ l[i].1, okD d) ∧ style_Check (shN l l.length) = some (0, 0) ∧ ((loopC B (([] : List FltT), (BASE, (0 : Int)))).bind fun r13 =>
 Go.Lf.onSum r13 (fun a14 =>
 ((Go.Fn.style_Check a14.1)).bind fun r15 =>
 bif (decide ((r15.2 : Int) = (0 : Int))) then some (a14.1, (none : Option (Int × (FltT × Unit))))
 else (bif (!(decide ((r15.2 : Int) = (2 : Int)))) then some ((decide (r15.1 < (((List.length BASE) : Nat) : Int))), (a14.1, a14.2))
   else some (true, (a14.1, a14.2))).bind fun r16 =>
 bif r16.1 then (((Go.Fn.fault_New r15.2 (0 : Int) (0 : Int) (0 : Int) ([] : List (UInt8)))).bind fun r17 =>
   some r17).bind fun r18 =>
 some (([] : List Sty), r18)
 else ((Go.Lf.idx r16.2.2 (Go.IntKind.wrap .i64 (r15.1 - (((List.length BASE) : Nat) : Int))))).bind fun r19 =>
 ((Go.Lf.idx r16.2.1 r15.1)).bind fun r20 =>
 ((Go.Fn.fault_New r15.2 r19.2.1 r19.2.2.1 (0 : Int) r20.1)).bind fun r21 =>
 some (([] : List Sty), r21)) (fun b22 =>
 some (b22.1, b22.2))) = some (shN l l.length, none)) := by
  rcases hl with ⟨hok, hl⟩ | ⟨e, hl⟩
  · have hlen := len_N l l.length (Nat.le_refl _)
    have hm : (frN l l.length).length ≤ 1048576 := by
      have := hlen.2
      rw [List.take_length] at this
      unfold many at h2
      omega
    have hf : Fine (shN l l.length) := ⟨by omega, shN_fine l h2 hok l.length (Nat.le_refl _)⟩
    have hb6 : (List.length BASE) = 6 := rfl
    rw [hl]
    simp only [Option.bind_some, onSum, hb6]
    rcases check_tot _ hf with hc | hc | ⟨p, c, hc, hc0, i, hi, rfl⟩
    · right
      refine ⟨hok, hc, ?_⟩
      rw [hc]; rfl
    · left
      obtain ⟨e, he⟩ := new_of (c := 2) (a := 0) (b := 0) (d := 0) (w := []) (by decide)
      refine ⟨e, ?_⟩
      rw [hc]
      change (((fault_New 2 0 0 0 []).bind fun r17 => some r17).bind fun r18 => some (([] : List Sty), r18)) = _
      rw [he]; rfl
    · left
      rw [hc]
      simp only [Option.bind_some, decide_eq_false hc0, cond_false]
      have hfall : ∀ b : Bool, (b = false → 6 ≤ i) → ∃ e, (bif b then (((Go.Fn.fault_New c (0 : Int) (0 : Int) (0 : Int) ([] : List (UInt8)))).bind fun r17 =>
   some r17).bind fun r18 =>
 some (([] : List Sty), r18)
 else ((Go.Lf.idx (frN l l.length) (Go.IntKind.wrap .i64 ((i : Int) - (((6 : Nat)) : Int))))).bind fun r19 =>
 ((Go.Lf.idx (shN l l.length) (i : Int))).bind fun r20 =>
 ((Go.Fn.fault_New c r19.2.1 r19.2.2.1 (0 : Int) r20.1)).bind fun r21 =>
 some (([] : List Sty), r21)) = some (([] : List Sty), some e) := by
        intro b hb
        cases b with
        | true =>
          obtain ⟨e, he⟩ := new_of (c := c) (a := 0) (b := 0) (d := 0) (w := []) hc0
          exact ⟨e, by rw [cond_true, he]; rfl⟩
        | false =>
          have h6 := hb rfl
          rw [cond_false, wrap64 (by omega) (by omega), show ((i : Int) - ((6 : Nat) : Int)) = ((i - 6 : Nat) : Int) by omega, idx_nat, idx_nat, List.getElem?_eq_getElem (show i - 6 < (frN l l.length).length by omega), List.getElem?_eq_getElem hi, Option.bind_some, Option.bind_some]
          obtain ⟨e, he⟩ := new_of (c := c) (a := ((frN l l.length)[i - 6]'(by omega)).2.1) (b := ((frN l l.length)[i - 6]'(by omega)).2.2.1) (d := 0) (w := (shN l l.length)[i].1) hc0
          exact ⟨e, by rw [he]; rfl⟩
      by_cases hc2 : c = 2
      · simp only [hc2, decide_true, Bool.not_true, cond_false, Option.bind_some]
        rw [hc2] at hfall
        exact hfall true (fun h => by cases h)
      · simp only [hc2, decide_false, Bool.not_false, cond_true, Option.bind_some]
        exact hfall _ (fun h => by have := of_decide_eq_false h; omega)
  · left
    rw [hl]
    exact ⟨e, rfl⟩
theorem ir_sheets_law (l : List (List DefT × ((List qT54) × Unit))) (h1 : l.length ≤ 1048576) (h2 : many l ≤ 1048576) : foliolaw11_IrSheets l = some true := by
  have key := sheet_eq l h1 h2 _ (sheet_loops l h1 h2 _ (fun _ => rfl))
  unfold foliolaw11_IrSheets ir_Sheet
  simp only [awake, sbase_eq, Option.bind_some, Bool.not_true, cond_false]
  rcases key with ⟨e, he⟩ | ⟨hok, hc, he⟩
  · rw [he]; rfl
  · rw [he]
    have hlen := len_N l l.length (Nat.le_refl _)
    have hm : (shN l l.length).length ≤ 1048582 := by
      have := hlen.2
      rw [List.take_length] at this
      unfold many at h2
      omega
    have hr := rsheet_loops l h1 h2 hok _ (fun _ => rfl)
    simp only [cond_false, Option.bind_some, Option.isSome_none, rbase_eq]
    rw [hr]
    simp only [Option.bind_some, onSum]
    rw [app_of (by simp only [List.length_nil]; omega), Option.bind_some, List.nil_append, hc, Option.bind_some, sheets_refl _ (by omega)]
    rfl
theorem sum_mono {α : Type} {f g : α → Nat} (h : ∀ x, f x ≤ g x) : ∀ l : List α, (l.map f).sum ≤ (l.map g).sum
  | [] => Nat.le_refl _
  | x :: r => by
    have := sum_mono h r
    have := h x
    simp only [List.map_cons, List.sum_cons]
    omega
theorem ir_sheets_sz (l : List (List DefT × ((List qT54) × Unit))) (h : Sz (.sl (.st (.pr (.sl qY0) qY59))) l ≤ 1048576) : foliolaw11_IrSheets l = some true := by
  have h0 : (l.map (Sz (.st (.pr (.sl qY0) qY59)))).sum + l.length ≤ 1048576 := h
  have h3 := sum_mono (f := fun s : List DefT × ((List qT54) × Unit) => s.1.length) (g := Sz (.st (.pr (.sl qY0) qY59))) (fun s => by
    show s.1.length ≤ (((s.1.map (Sz qY0)).sum + s.1.length) + Sz qY59 s.2)
    omega) l
  exact ir_sheets_law l (by omega) (by unfold many; omega)
end Go.Fn
