/- Chapter 6, plainly: a text read, by the second way. -/
import Derived.Test.YtkfcinmgebhbhaaDoorQPg
namespace Go.Fn
open Go Go.Lf

noncomputable def rB (r1 : List Bs) (z5 : Int × Bool × Sty × Sty) : Option ((Int × Bool × Sty × Sty) ⊕ (Bool × Sty × Sty)) :=
     (bif (decide (z5.1 < (((List.length r1) : Nat) : Int))) then some (z5.2.1, (z5.2.2.1, z5.2.2.2))
       else some (false, (z5.2.2.1, z5.2.2.2))).bind fun r6 =>
     bif r6.1 then (((Go.Lf.idx r1 z5.1)).bind fun r7 =>
       bif (decide ((r7 : List (UInt8)) = CLR)) then (bif (decide ((r6.2.1.2.2.1.2.2.1 : Int) = (-(1 : Int)))) then some ((decide ((Go.IntKind.wrap .i64 (z5.1 + (1 : Int))) < (((List.length r1) : Nat) : Int))), (r6.2.1, r6.2.2))
         else some (false, (r6.2.1, r6.2.2))).bind fun r8 =>
       (bif r8.1 then ((Go.Lf.idx r1 (Go.IntKind.wrap .i64 (z5.1 + (1 : Int))))).bind fun r9 =>
         ((Go.Fn.folioref06_color r9)).bind fun r10 =>
         some (r10.2, (r10.1, (r8.2.1, r8.2.2)))
         else some (r8.1, ((0 : Int), (r8.2.1, r8.2.2)))).bind fun r11 =>
       some (r11.1, ((Go.IntKind.wrap .i64 (z5.1 + (1 : Int))), ((r11.2.2.1.1, (r11.2.2.1.2.1, ((r11.2.2.1.2.2.1.1, (r11.2.2.1.2.2.1.2.1, (r11.2.1, r11.2.2.1.2.2.1.2.2.2))), r11.2.2.1.2.2.2))), r11.2.2.2)))
       else (((Go.Lf.idx r1 z5.1)).bind fun r12 =>
         ((Go.Lf.idx r12 (0 : Int))).bind fun r13 =>
         bif (!(decide (((((UInt8.toNat r13) : Nat) : Int) : Int) = (43 : Int)))) then ((Go.Lf.idx r1 z5.1)).bind fun r14 =>
         ((Go.Lf.idx r14 (0 : Int))).bind fun r15 =>
         some ((decide (((((UInt8.toNat r15) : Nat) : Int) : Int) = (45 : Int))), (r6.2.1, r6.2.2))
         else some (true, (r6.2.1, r6.2.2))).bind fun r16 =>
       bif r16.1 then ((Go.Lf.idx r1 z5.1)).bind fun r17 =>
       ((Go.Lf.sub r17 (1 : Int) (((List.length r17) : Nat) : Int))).bind fun r18 =>
       ((Go.Fn.folioref06_bit r18)).bind fun r19 =>
       (bif (decide ((r19 : Int) ≠ (0 : Int))) then some ((decide (((Go.Lf.bits .and .i64 (Go.Lf.bits .or .i64 r16.2.1.2.2.1.1 r16.2.1.2.2.1.2.1) r19) : Int) = (0 : Int))), (r16.2.1, r16.2.2))
         else some (false, (r16.2.1, r16.2.2))).bind fun r20 =>
       ((Go.Lf.idx r1 z5.1)).bind fun r21 =>
       ((Go.Lf.idx r21 (0 : Int))).bind fun r22 =>
       bif (decide (((((UInt8.toNat r22) : Nat) : Int) : Int) = (43 : Int))) then some (r20.1, (z5.1, ((r20.2.1.1, (r20.2.1.2.1, (((Go.Lf.bits .or .i64 r20.2.1.2.2.1.1 r19), r20.2.1.2.2.1.2), r20.2.1.2.2.2))), r20.2.2)))
       else some (r20.1, (z5.1, ((r20.2.1.1, (r20.2.1.2.1, ((r20.2.1.2.2.1.1, ((Go.Lf.bits .or .i64 r20.2.1.2.2.1.2.1 r19), r20.2.1.2.2.1.2.2)), r20.2.1.2.2.2))), r20.2.2)))
       else some (false, (z5.1, (r16.2.1, r16.2.2)))).bind fun r23 =>
     some (.inl ((Go.IntKind.wrap .i64 (r23.2.1 + (1 : Int))), (r23.1, (r23.2.2.1, r23.2.2.2))))
     else some (.inr (z5.2.1, (r6.2.2, r6.2.1)))
/-- an attribute's word, by the second way -/
theorem attrS_bit (on off : Int) (col : Int) (s : UInt8) (a : Bs) : attrS (on, off, col, ()) (s :: a) = match at7 0 W7 a with
    | none => none
    | some i => if Go.Lf.bits .and .i64 (Go.Lf.bits .or .i64 on off) (2 ^ i : Int) = 0 then
        (if s.toNat = 43 then some (Go.Lf.bits .or .i64 on (2 ^ i : Int), off, col, ()) else if s.toNat = 45 then some (on, Go.Lf.bits .or .i64 off (2 ^ i : Int), col, ()) else none) else none := by
  unfold attrS
  dsimp only
  cases h : at7 0 W7 a with
  | none => rfl
  | some i =>
    dsimp only
    have hi : i < 7 := (at7_lt W7 0 a i h).2
    have := and_pow (BitVec.ofInt 64 on ||| BitVec.ofInt 64 off) i hi
    rw [bits_or on off]
    cases hb : (BitVec.ofInt 64 on ||| BitVec.ofInt 64 off).getLsbD i with
    | true =>
      have h2 := mt this.1 (by rw [hb]; simp)
      simp only [h2, if_true, if_false]
    | false =>
      have h2 := this.2 hb
      simp only [h2, Bool.false_eq_true, if_true, if_false]
theorem pow7 : ∀ i : Nat, i < 7 → (2 ^ i : Int) ≠ 0 := lt7 (by decide) (by decide) (by decide) (by decide) (by decide) (by decide) (by decide)
section
variable (ws : List Bs) (B : Int × Bool × Sty × Sty → Option ((Int × Bool × Sty × Sty) ⊕ (Bool × Sty × Sty))) (hB : ∀ z, B z = rB ws z)
include hB
theorem r_end (ok : Bool) (st z0 : Sty) : loopC B (((ws.length : Nat) : Int), ok, st, z0) = some (ok, z0, st) := by
  rw [loopC_step, hB]
  simp [rB]
theorem r_bad (i : Int) (st z0 : Sty) : loopC B (i, false, st, z0) = some (false, z0, st) := by
  rw [loopC_step, hB]
  unfold rB
  by_cases h : i < ((ws.length : Nat) : Int) <;> simp [h]
theorem r_loop (hw : ∀ x ∈ ws, x ≠ [] ∧ x.length ≤ 4096) (hn : ws.length ≤ 4096) (z0 : Sty) : ∀ (n m i : Nat) (st : Sty), m ≤ n → i + m = ws.length →
    ∃ r, loopC B ((i : Int), true, st, z0) = some r ∧ (match pw false st (ws.drop i) with | some st' => r = (true, z0, st') | none => r.1 = false) := fun n => by
  induction n with
  | zero =>
    intro m i st hm hi
    have hi : i = ws.length := by omega
    subst hi
    rw [r_end ws B hB, List.drop_length]
    exact ⟨_, rfl, rfl⟩
  | succ n ih =>
    intro m i st hm hi
    by_cases hz : m = 0
    · have hi : i = ws.length := by omega
      subst hi
      rw [r_end ws B hB, List.drop_length]
      exact ⟨_, rfl, rfl⟩
    · have hlt : i < ws.length := by omega
      have hg : ws[i]? = some ws[i] := List.getElem?_eq_getElem hlt
      have e1 : (i : Int) < ((ws.length : Nat) : Int) := by omega
      obtain ⟨hne, hlen⟩ := hw ws[i] (List.getElem_mem hlt)
      rw [loopC_step, hB, List.drop_eq_getElem_cons hlt]
      unfold rB pw
      simp only [e1, decide_true, cond_true, idx_nat, hg, Option.bind_some]
      rw [wrapS (by omega)]
      by_cases hc : ws[i] = COLOR
      · rw [if_pos hc]
        simp only [hc, decide_true, cond_true, Option.bind_some]
        by_cases h2 : i + 1 < ws.length
        · have e2 : (((i + 1 : Nat) : Int) < ((ws.length : Nat) : Int)) := by omega
          rw [List.drop_eq_getElem_cons h2]
          unfold pw
          by_cases hm1 : st.2.2.1.2.2.1 = -1
          · simp only [hm1, decide_true, cond_true, Option.bind_some, e2, idx_nat, List.getElem?_eq_getElem h2, rcolor_eq]
            cases hcs : colS ws[i + 1] with
            | none =>
              simp only []
              rw [r_bad ws B hB]
              exact ⟨_, rfl, rfl⟩
            | some c =>
              simp only [if_true]
              rw [wrapS (by omega)]
              exact ih (m - 2) (i + 1 + 1) _ (by omega) (by omega)
          · simp only [hm1, decide_false, cond_false, Option.bind_some]
            rw [r_bad ws B hB]
            cases hcs : colS ws[i + 1] with
            | none => exact ⟨_, rfl, rfl⟩
            | some c => exact ⟨_, rfl, rfl⟩
        · have e2 : ¬ (((i + 1 : Nat) : Int) < ((ws.length : Nat) : Int)) := by omega
          rw [List.drop_eq_nil_of_le (by omega)]
          unfold pw
          by_cases hm1 : st.2.2.1.2.2.1 = -1
          · simp only [hm1, decide_true, decide_false, cond_true, cond_false, Option.bind_some, e2]
            rw [r_bad ws B hB]
            exact ⟨_, rfl, rfl⟩
          · simp only [hm1, decide_false, cond_false, Option.bind_some]
            rw [r_bad ws B hB]
            exact ⟨_, rfl, rfl⟩
      · rw [if_neg hc]
        have hc' : decide (ws[i] = CLR) = false := decide_eq_false hc
        simp only [hc', cond_false]
        cases hw1 : ws[i] with
        | nil => exact absurd hw1 hne
        | cons s a =>
          have h0 : idx (s :: a) 0 = some s := rfl
          have hsub : sub (s :: a) 1 (((s :: a).length : Nat) : Int) = some a := by
            have := sub_nat (l := s :: a) (a := 1) (b := (s :: a).length) (by simp) (Nat.le_refl _)
            simpa using this
          obtain ⟨nm, bs, ⟨on, off, col, ⟨⟩⟩, ⟨⟩⟩ := st
          rw [attrS_bit]
          simp only [h0, hsub, Option.bind_some, rbit_eq]
          have bad : ∀ (x : Option ((Int × Bool × Sty × Sty) ⊕ (Bool × Sty × Sty))) (j : Int) (s' : Sty), x = some (.inl (j, false, s', z0)) → ∃ r, (x.bind fun | .inl z' => loopC B z' | .inr k => some k) = some r ∧ r.1 = false := fun x j s' hx => by
            subst hx
            exact ⟨_, r_bad ws B hB j s' z0, rfl⟩
          by_cases h43 : s.toNat = 43
          · have g43 : (((s.toNat : Nat) : Int) = 43) = True := eq_true (by omega)
            have p43 : (s.toNat = 43) = True := eq_true h43
            simp only [g43, decide_true, Bool.not_true, cond_false, cond_true, Option.bind_some, p43, if_true]
            cases h7 : at7 0 W7 a with
            | none => exact bad _ _ _ rfl
            | some k =>
              have hp := pow7 k (at7_lt W7 0 a k h7).2
              by_cases hb : Go.Lf.bits .and .i64 (Go.Lf.bits .or .i64 on off) (2 ^ k : Int) = 0
              · simp only [hp, hb, ne_eq, not_false_eq_true, decide_true, cond_true, Option.bind_some, if_true]
                rw [wrapS (by omega)]
                exact ih (m - 1) (i + 1) _ (by omega) (by omega)
              · simp only [hp, hb, ne_eq, not_false_eq_true, decide_true, decide_false, cond_true, Option.bind_some, if_false]
                exact bad _ _ _ rfl
          · have g43 : ¬ ((s.toNat : Nat) : Int) = 43 := by omega
            by_cases h45 : s.toNat = 45
            · have g45 : (((s.toNat : Nat) : Int) = 45) = True := eq_true (by omega)
              have p45 : (s.toNat = 45) = True := eq_true h45
              simp only [g43, g45, decide_true, decide_false, Bool.not_false, cond_false, cond_true, Option.bind_some, h43, p45, if_true, if_false]
              cases h7 : at7 0 W7 a with
              | none => exact bad _ _ _ rfl
              | some k =>
                have hp := pow7 k (at7_lt W7 0 a k h7).2
                by_cases hb : Go.Lf.bits .and .i64 (Go.Lf.bits .or .i64 on off) (2 ^ k : Int) = 0
                · simp only [hp, hb, ne_eq, not_false_eq_true, decide_true, cond_true, Option.bind_some, if_true]
                  rw [wrapS (by omega)]
                  exact ih (m - 1) (i + 1) _ (by omega) (by omega)
                · simp only [hp, hb, ne_eq, not_false_eq_true, decide_true, decide_false, cond_true, Option.bind_some, if_false]
                  exact bad _ _ _ rfl
            · have g45 : ¬ ((s.toNat : Nat) : Int) = 45 := by omega
              simp only [g43, g45, decide_false, Bool.not_false, cond_false, cond_true, Option.bind_some, h43, h45, if_false]
              have h2 : (match at7 0 W7 a with | none => none | some i => if Go.Lf.bits .and .i64 (Go.Lf.bits .or .i64 on off) (2 ^ i : Int) = 0 then (none : Option Chg) else none) = none := by
                cases at7 0 W7 a with
                | none => rfl
                | some k => simp
              rw [h2]
              exact bad _ _ _ rfl
end
theorem rparse_eq (s : Bs) : folioref06_Parse s = some (parse s) := by
  unfold folioref06_Parse parse
  by_cases h0 : 4096 < s.length
  · have : (4096 : Int) < ((s.length : Nat) : Int) := by omega
    simp [this, h0, zs]
  · have h1 : ¬ (4096 : Int) < ((s.length : Nat) : Int) := by omega
    rw [if_neg h0]
    simp only [h1, decide_false, cond_false, rwords_loop s (by omega), Option.bind_some]
    have hw := sp_words s [] [] 4096 (fun x h => by cases h) (by simp; omega)
    have hn : (sp [] [] s).length ≤ 4096 := by have := sp_len s [] []; simp at this; omega
    revert hw hn
    generalize sp [] [] s = ws
    intro hw hn
    cases ws with
    | nil => simp [zs]
    | cons w r =>
      obtain ⟨hne, hlen⟩ := hw w List.mem_cons_self
      have h2 : ¬ (((w :: r).length : Nat) : Int) = 0 := by simp only [List.length_cons]; omega
      have h3 : idx (w :: r) 0 = some w := rfl
      simp only [h2, decide_false, cond_false, h3, Option.bind_some, none_eq, rnames_eq w hlen]
      have fin : ∀ (a b : Bs) (k : Bool), (loopC (rB (w :: r)) ((1 : Int), k, ((a, b, (0, 0, -1, ()), ()) : Sty), (([], [], (0, 0, 0, ()), ()) : Sty))).bind (fun r24 => bif (!r24.1) then some ((([] : List (UInt8)), (([] : List (UInt8)), (((0 : Int), ((0 : Int), ((0 : Int), ()))), ()))), (67 : Int))
         else some (r24.2.2, (0 : Int))) = some ((if k then (match pw false (a, b, (0, 0, -1, ()), ()) r with | some st => (st, 0) | none => (zs, 67)) else (zs, 67)) : Sty × Int) := fun a b k => by
        cases k with
        | false => rw [r_bad (w :: r) (rB (w :: r)) (fun _ => rfl)]; rfl
        | true =>
          obtain ⟨x, hx1, hx2⟩ := r_loop (w :: r) (rB (w :: r)) (fun _ => rfl) hw hn ([], [], (0, 0, 0, ()), ()) r.length r.length 1 (a, b, (0, 0, -1, ()), ()) (Nat.le_refl _) (by simp only [List.length_cons]; omega)
          have hx1 : loopC (rB (w :: r)) ((1 : Int), true, ((a, b, (0, 0, -1, ()), ()) : Sty), (([], [], (0, 0, 0, ()), ()) : Sty)) = some x := hx1
          rw [hx1]
          have hx2 : (match pw false (a, b, (0, 0, -1, ()), ()) r with | some st' => x = (true, ([], [], (0, 0, 0, ()), ()), st') | none => x.1 = false) := hx2
          cases hp : pw false (a, b, (0, 0, -1, ()), ()) r with
          | none =>
            rw [hp] at hx2
            have hx2 : x.1 = false := hx2
            simp [hx2, zs]
          | some st' =>
            rw [hp] at hx2
            have hx2 : x = _ := hx2
            rw [hx2]; rfl
      exact fin (nm w).1 (nm w).2.1 (nm w).2.2
end Go.Fn
