/- Chapter 6, plainly: attributes. -/
import Derived.Test.YtkfcinmgebhbhaaDoorQPc
namespace Go.Fn
open Go Go.Lf

abbrev Sty := Bs × Bs × Chg × Unit
def W7 : List Bs := [[98, 111, 108, 100], [105, 116, 97, 108, 105, 99], [117, 110, 100, 101, 114], [115, 116, 114, 105, 107, 101], [109, 111, 110, 111], [115, 109, 97, 108, 108], [114, 101, 118, 101, 114, 115, 101]]
def at7 : Nat → List Bs → Bs → Option Nat
  | _, [], _ => none
  | i, x :: r, a => if x = a then some i else at7 (i + 1) r a
theorem words_eq : style_words = some W7 := by kernel_rfl
theorem rwords_eq : folioref06_Words = some W7 := by kernel_rfl
theorem lt7 {p : Nat → Prop} (h0 : p 0) (h1 : p 1) (h2 : p 2) (h3 : p 3) (h4 : p 4) (h5 : p 5) (h6 : p 6) : ∀ i, i < 7 → p i
  | 0, _ => h0 | 1, _ => h1 | 2, _ => h2 | 3, _ => h3 | 4, _ => h4 | 5, _ => h5 | 6, _ => h6
  | n + 7, h => absurd h (by omega)
theorem at7_lt : ∀ (l : List Bs) (k : Nat) (a : Bs) (i : Nat), at7 k l a = some i → k ≤ i ∧ i < k + l.length
  | [], k, a, i, h => by cases h
  | x :: r, k, a, i, h => by
    unfold at7 at h
    split at h
    · injection h with h; subst h; simp
    · have := at7_lt r (k + 1) a i h
      simp only [List.length_cons]
      omega
theorem shl_at : ∀ i : Nat, i < 7 → nn (i : Int) (IntKind.wrap .i64 ((1 : Int) * ((2 : Int) ^ (min (Int.toNat (i : Int)) (64 : Nat))))) = some (2 ^ i : Int) := lt7 (by decide) (by decide) (by decide) (by decide) (by decide) (by decide) (by decide)
theorem rshl_at : ∀ i : Nat, i < 7 → nn (IntKind.wrap .u64 (i : Int)) (IntKind.wrap .i64 ((1 : Int) * ((2 : Int) ^ (min (Int.toNat (IntKind.wrap .u64 (i : Int))) (64 : Nat))))) = some (2 ^ i : Int) := lt7 (by decide) (by decide) (by decide) (by decide) (by decide) (by decide) (by decide)
theorem num_val (X : BitVec 64) : num X = if X.toNat < 9223372036854775808 then (X.toNat : Int) else (X.toNat : Int) - 18446744073709551616 := by
  have h := X.isLt
  simp only [num, IntKind.wrap]
  simp [IntKind.bits, IntKind.signed]
  split <;> split <;> omega
theorem and_one (n : Int) : (Go.Lf.bits .and .i64 n 1 = 1) ↔ n % 2 = 1 := by
  rw [bits_and, show BitVec.ofInt 64 1 = 1#64 by decide]
  have h1 : (BitVec.ofInt 64 n &&& 1#64).toNat = (BitVec.ofInt 64 n).toNat % 2 := by
    rw [BitVec.toNat_and]; exact Nat.and_one_is_mod _
  have h2 : ((BitVec.ofInt 64 n).toNat : Int) = n % 18446744073709551616 := by simp [BitVec.toNat_ofInt]; omega
  rw [num_val, h1]
  split <;> omega
theorem bit_at (X : BitVec 64) : ∀ i : Nat, i < 7 → (Go.Lf.bits .and .i64 (Int.fdiv (num X) ((2 : Int) ^ (min (Int.toNat (i : Int)) (64 : Nat)))) 1 = 1 ↔ X.getLsbD i = true) := by
  have h := X.isLt
  have hv := num_val X
  have key : ∀ (i : Nat) (m : Nat), (2 : Int) ^ (min (Int.toNat (i : Int)) (64 : Nat)) = (m : Int) → 2 ^ i = m → 0 < m → 18446744073709551616 % (2 * m) = 0 → (Go.Lf.bits .and .i64 (Int.fdiv (num X) ((2 : Int) ^ (min (Int.toNat (i : Int)) (64 : Nat)))) 1 = 1 ↔ X.getLsbD i = true) := fun i m h1 h2 h3 h4 => by
    rw [and_one, h1, Int.fdiv_eq_ediv_of_nonneg _ (by omega)]
    have h5 : (X.getLsbD i = true) ↔ X.toNat / m % 2 = 1 := by
      rw [← BitVec.testBit_toNat, Nat.testBit_eq_decide_div_mod_eq, h2]
      simp
    rw [h5, hv]
    obtain ⟨q, hq⟩ := Nat.dvd_of_mod_eq_zero h4
    split
    · have : ((X.toNat : Int) / (m : Int)) = ((X.toNat / m : Nat) : Int) := (Int.natCast_ediv X.toNat m).symm
      rw [this]; omega
    · have e1 : (X.toNat : Int) - 18446744073709551616 = (X.toNat : Int) + (m : Int) * (-(2 * (q : Int))) := by
        have h7 : (m : Int) * (q : Int) = ((m * q : Nat) : Int) := (Int.natCast_mul m q).symm
        have h8 : 18446744073709551616 = 2 * (m * q) := by rw [← Nat.mul_assoc]; exact hq
        have h9 : (m : Int) * (-(2 * (q : Int))) = -(2 * ((m * q : Nat) : Int)) := by rw [Int.mul_neg, Int.mul_left_comm, h7]
        rw [h9]
        generalize m * q = p at h8
        omega
      rw [e1, Int.add_mul_ediv_left _ _ (by omega)]
      have : ((X.toNat : Int) / (m : Int)) = ((X.toNat / m : Nat) : Int) := (Int.natCast_ediv X.toNat m).symm
      rw [this]
      generalize X.toNat / m = y
      omega
  exact lt7 (key 0 1 (by decide) rfl (by decide) (by decide)) (key 1 2 (by decide) rfl (by decide) (by decide)) (key 2 4 (by decide) rfl (by decide) (by decide)) (key 3 8 (by decide) rfl (by decide) (by decide)) (key 4 16 (by decide) rfl (by decide) (by decide)) (key 5 32 (by decide) rfl (by decide) (by decide)) (key 6 64 (by decide) rfl (by decide) (by decide))
theorem and_pow (X : BitVec 64) : ∀ i : Nat, i < 7 → (Go.Lf.bits .and .i64 (num X) (2 ^ i : Int) = 0 ↔ X.getLsbD i = false) := by
  have key : ∀ (i : Nat), i < 64 → BitVec.ofInt 64 (2 ^ i : Int) = BitVec.twoPow 64 i → (Go.Lf.bits .and .i64 (num X) (2 ^ i : Int) = 0 ↔ X.getLsbD i = false) := fun i hi he => by
    rw [bits_and, num_inj, num_zero, he, BitVec.and_twoPow]
    cases hx : X.getLsbD i with
    | false => simp
    | true =>
      simp only [if_true]
      constructor
      · intro h
        have := congrArg (fun x : BitVec 64 => x.getLsbD i) h
        simp [BitVec.getLsbD_twoPow, hi] at this
      · intro h; cases h
  exact lt7 (key 0 (by decide) (by decide)) (key 1 (by decide) (by decide)) (key 2 (by decide) (by decide)) (key 3 (by decide) (by decide)) (key 4 (by decide) (by decide)) (key 5 (by decide) (by decide)) (key 6 (by decide) (by decide))
theorem rbit_eq (a : Bs) : folioref06_bit a = some (match at7 0 W7 a with | some i => (2 ^ i : Int) | none => 0) := by
  unfold folioref06_bit
  rw [rwords_eq]
  simp only [Option.bind_some]
  have h := range_loopI0 (l := W7) (κ := Unit ⊕ Int) (B := fun z2 => bif (decide (z2 < (((List.length W7) : Nat) : Int))) then ((Go.Lf.idx W7 z2)).bind fun r3 =>
     bif (decide ((r3 : List (UInt8)) = a)) then ((Go.Lf.nn (Go.IntKind.wrap .u64 z2) (Go.IntKind.wrap .i64 ((1 : Int) * ((2 : Int) ^ (Min.min (Int.toNat (Go.IntKind.wrap .u64 z2)) (64 : Nat))))))).bind fun r4 =>
     some (.inr (.inr r4))
     else some (.inl (Go.IntKind.wrap .i64 (z2 + (1 : Int))))
     else some (.inr (.inl ()))) (fun i x => if x = a then some (.inr (.inr (2 ^ i : Int))) else some (.inl ())) (.inl ()) (fun i x hx => by
      have hlt : i < 7 := (List.getElem?_eq_some_iff.1 hx).1
      have e1 : (i : Int) < ((W7.length : Nat) : Int) := by show (i : Int) < 7; omega
      rw [idx_nat, hx, wrapS (by omega), rshl_at i hlt]
      by_cases hw : x = a <;> simp [e1, hw, onSum]) (by simp) 7 0 rfl
  rw [List.drop_zero] at h
  have key : ∀ (l : List Bs) (k : Nat), foldI (fun i x (_ : Unit) => if x = a then some (.inr (.inr (2 ^ i : Int))) else some (.inl ())) (fun _ => (.inl () : Unit ⊕ Int)) k l () = some (match at7 k l a with | some i => .inr (2 ^ i : Int) | none => .inl ()) := fun l => by
    induction l with
    | nil => intro k; rfl
    | cons x r ih =>
      intro k
      unfold foldI at7
      by_cases hx : x = a
      · simp [hx, onSum]
      · simp only [hx, if_false, Option.bind_some, onSum]
        exact ih (k + 1)
  rw [key] at h
  have h : loopC _ (0 : Int) = _ := h
  rw [h]
  cases at7 0 W7 a <;> rfl

/-- an attribute's word, taken -/
def attrS (c : Chg) : Bs → Option Chg
  | [] => none
  | s :: a => match at7 0 W7 a with
    | none => none
    | some i => if (BitVec.ofInt 64 c.1 ||| BitVec.ofInt 64 c.2.1).getLsbD i then none
      else if s.toNat = 43 then some (Go.Lf.bits .or .i64 c.1 (2 ^ i : Int), c.2)
      else if s.toNat = 45 then some (c.1, Go.Lf.bits .or .i64 c.2.1 (2 ^ i : Int), c.2.2)
      else none
theorem W7_nodup {i j : Nat} {x : Bs} (hi : W7[i]? = some x) (hj : W7[j]? = some x) : i = j := by
  have hn : W7.Nodup := by decide
  exact (List.getElem?_inj (List.getElem?_eq_some_iff.1 hi).1 hn).1 (hi.trans hj.symm)
def stepA (s : UInt8) (a : Bs) (i : Nat) (x : Bs) (st : Sty) : Option (Sty ⊕ (Sty ⊕ (Bool × Sty))) :=
  if x = a then
    if (BitVec.ofInt 64 st.2.2.1.1 ||| BitVec.ofInt 64 st.2.2.1.2.1).getLsbD i then some (.inl st)
    else if s.toNat = 43 then some (.inr (.inr (true, st.1, st.2.1, (Go.Lf.bits .or .i64 st.2.2.1.1 (2 ^ i : Int), st.2.2.1.2), st.2.2.2)))
    else if s.toNat = 45 then some (.inr (.inr (true, st.1, st.2.1, (st.2.2.1.1, Go.Lf.bits .or .i64 st.2.2.1.2.1 (2 ^ i : Int), st.2.2.1.2.2), st.2.2.2)))
    else some (.inl st)
  else some (.inl st)
theorem foldA (s : UInt8) (a : Bs) (st : Sty) : ∀ (l : List Bs) (k : Nat), l.Nodup → foldI (stepA s a) (fun st => (.inl st : Sty ⊕ (Bool × Sty))) k l st = some (match at7 k l a with
    | none => .inl st
    | some i => if (BitVec.ofInt 64 st.2.2.1.1 ||| BitVec.ofInt 64 st.2.2.1.2.1).getLsbD i then .inl st
      else if s.toNat = 43 then .inr (true, st.1, st.2.1, (Go.Lf.bits .or .i64 st.2.2.1.1 (2 ^ i : Int), st.2.2.1.2), st.2.2.2)
      else if s.toNat = 45 then .inr (true, st.1, st.2.1, (st.2.2.1.1, Go.Lf.bits .or .i64 st.2.2.1.2.1 (2 ^ i : Int), st.2.2.1.2.2), st.2.2.2)
      else .inl st) := fun l => by
  have none_of : ∀ (l : List Bs) (k : Nat), a ∉ l → at7 k l a = none ∧ foldI (stepA s a) (fun st => (.inl st : Sty ⊕ (Bool × Sty))) k l st = some (.inl st) := fun l => by
    induction l with
    | nil => intro k _; exact ⟨rfl, rfl⟩
    | cons x r ih =>
      intro k hn
      have hx : ¬ x = a := fun e => hn (e ▸ List.mem_cons_self)
      obtain ⟨h1, h2⟩ := ih (k + 1) fun h => hn (List.mem_cons_of_mem _ h)
      unfold at7 foldI stepA
      simp only [hx, if_false, Option.bind_some, onSum]
      exact ⟨h1, h2⟩
  induction l with
  | nil => intro k _; rfl
  | cons x r ih =>
    intro k hn
    obtain ⟨h1, h2⟩ := List.nodup_cons.1 hn
    by_cases hx : x = a
    · subst hx
      obtain ⟨_, g2⟩ := none_of r (k + 1) h1
      unfold foldI at7
      rw [if_pos rfl]
      have hs : stepA s x k x st = (if (BitVec.ofInt 64 st.2.2.1.1 ||| BitVec.ofInt 64 st.2.2.1.2.1).getLsbD k then some (.inl st)
        else if s.toNat = 43 then some (.inr (.inr (true, st.1, st.2.1, (Go.Lf.bits .or .i64 st.2.2.1.1 (2 ^ k : Int), st.2.2.1.2), st.2.2.2)))
        else if s.toNat = 45 then some (.inr (.inr (true, st.1, st.2.1, (st.2.2.1.1, Go.Lf.bits .or .i64 st.2.2.1.2.1 (2 ^ k : Int), st.2.2.1.2.2), st.2.2.2)))
        else some (.inl st)) := by unfold stepA; rw [if_pos rfl]
      rw [hs]
      cases hb : (BitVec.ofInt 64 st.2.2.1.1 ||| BitVec.ofInt 64 st.2.2.1.2.1).getLsbD k with
      | true => simp only [if_true, Option.bind_some, onSum, hb]; exact g2
      | false =>
        by_cases h43 : s.toNat = 43
        · simp [onSum, hb, h43]
        · by_cases h45 : s.toNat = 45
          · simp [onSum, hb, h45]
          · simp only [Bool.false_eq_true, if_false, h43, h45, Option.bind_some, onSum, hb]; exact g2
    · unfold foldI at7
      rw [if_neg hx]
      unfold stepA
      simp only [hx, if_false, Option.bind_some, onSum]
      exact ih (k + 1) h2
def attrB (s : UInt8) (a : Bs) (z : Int × Sty) : Option ((Int × Sty) ⊕ (Sty ⊕ (Bool × Sty))) :=
 (bif (decide (z.1 < (((List.length W7) : Nat) : Int))) then (((Go.Lf.idx W7 z.1)).bind fun r3 =>
       (((Go.Lf.sub (s :: a) (1 : Int) (((List.length (s :: a)) : Nat) : Int))).bind fun r4 =>
         bif (!(decide ((r4 : List (UInt8)) ≠ r3))) then ((Go.Lf.nn z.1 (Int.fdiv (Go.Lf.bits .or .i64 z.2.2.2.1.1 z.2.2.2.1.2.1) ((2 : Int) ^ (Min.min (Int.toNat z.1) (64 : Nat)))))).bind fun r5 =>
         some ((decide (((Go.Lf.bits .and .i64 r5 (1 : Int)) : Int) = (1 : Int))), z.2)
         else some (true, z.2)).bind fun r6 =>
       bif r6.1 then some (.inl r6.2)
       else ((Go.Lf.idx (s :: a) (0 : Int))).bind fun r7 =>
       bif (decide (((((UInt8.toNat r7) : Nat) : Int) : Int) = (43 : Int))) then ((Go.Lf.nn z.1 (Go.IntKind.wrap .i64 ((1 : Int) * ((2 : Int) ^ (Min.min (Int.toNat z.1) (64 : Nat))))))).bind fun r8 =>
       some (.inr (true, (r6.2.1, (r6.2.2.1, (((Go.Lf.bits .or .i64 r6.2.2.2.1.1 r8), r6.2.2.2.1.2), r6.2.2.2.2)))))
       else bif (decide (((((UInt8.toNat r7) : Nat) : Int) : Int) = (45 : Int))) then ((Go.Lf.nn z.1 (Go.IntKind.wrap .i64 ((1 : Int) * ((2 : Int) ^ (Min.min (Int.toNat z.1) (64 : Nat))))))).bind fun r9 =>
       some (.inr (true, (r6.2.1, (r6.2.2.1, ((r6.2.2.2.1.1, ((Go.Lf.bits .or .i64 r6.2.2.2.1.2.1 r9), r6.2.2.2.1.2.2)), r6.2.2.2.2)))))
       else some (.inl r6.2) : Option (((List (UInt8)) × ((List (UInt8)) × (((Int) × ((Int) × ((Int) × (Unit)))) × (Unit)))) ⊕ ((Bool) × ((List (UInt8)) × ((List (UInt8)) × (((Int) × ((Int) × ((Int) × (Unit)))) × (Unit))))))).bind fun r10 =>
     Go.Lf.onSum r10 (fun a11 =>
     some (.inl ((Go.IntKind.wrap .i64 (z.1 + (1 : Int))), a11))) (fun b12 =>
     some (.inr (.inr (b12.1, b12.2))))
     else some (.inr (.inl z.2)))
theorem attr_eq (st : Sty) (s : UInt8) (a : Bs) (ha : a.length < 9223372036854775807) : style_attribute st (s :: a) = some (match attrS st.2.2.1 (s :: a) with
    | none => (false, st)
    | some c => (true, st.1, st.2.1, c, st.2.2.2)) := by
  unfold style_attribute
  rw [words_eq]
  simp only [Option.bind_some]
  have hsub : sub (s :: a) 1 (((s :: a).length : Nat) : Int) = some a := by
    have := sub_nat (l := s :: a) (a := 1) (b := (s :: a).length) (by simp) (Nat.le_refl _)
    simpa using this
  have hidx : idx (s :: a) 0 = some s := rfl
  have hl := range_loopI (l := W7) (σ := Sty) (κ := Sty ⊕ (Bool × Sty)) (B := attrB s a) (stepA s a) .inl (fun i x st hx => by
    have hlt : i < 7 := (List.getElem?_eq_some_iff.1 hx).1
    have e1 : (i : Int) < ((W7.length : Nat) : Int) := by show (i : Int) < 7; omega
    show attrB s a ((i : Int), st) = _
    unfold attrB
    dsimp only
    have hnn : nn (i : Int) (Int.fdiv (Go.Lf.bits .or .i64 st.2.2.1.1 st.2.2.1.2.1) ((2 : Int) ^ (Min.min (Int.toNat (i : Int)) (64 : Nat)))) = some (Int.fdiv (num (BitVec.ofInt 64 st.2.2.1.1 ||| BitVec.ofInt 64 st.2.2.1.2.1)) ((2 : Int) ^ (Min.min (Int.toNat (i : Int)) (64 : Nat)))) := by
      unfold nn
      rw [if_neg (by omega), bits_or]
    rw [idx_nat, hx, hsub, hidx, wrapS (by omega), shl_at i hlt, hnn]
    unfold stepA
    simp only [e1, decide_true, cond_true, Option.bind_some]
    by_cases hw : x = a
    · subst hw
      have hb := bit_at (BitVec.ofInt 64 st.2.2.1.1 ||| BitVec.ofInt 64 st.2.2.1.2.1) i hlt
      revert hb
      generalize Int.fdiv (num (BitVec.ofInt 64 st.2.2.1.1 ||| BitVec.ofInt 64 st.2.2.1.2.1)) ((2 : Int) ^ (Min.min (Int.toNat (i : Int)) (64 : Nat))) = q
      intro hb
      cases hbit : (BitVec.ofInt 64 st.2.2.1.1 ||| BitVec.ofInt 64 st.2.2.1.2.1).getLsbD i with
      | true => simp [hb.2 hbit, onSum]
      | false =>
        have hb2 := mt hb.1 (by rw [hbit]; simp)
        by_cases h43 : s.toNat = 43
        · have : ((s.toNat : Nat) : Int) = 43 := by omega
          simp [hb2, h43, onSum]
        · have g43 : ¬ ((s.toNat : Nat) : Int) = 43 := by omega
          by_cases h45 : s.toNat = 45
          · simp [hb2, h45, onSum]
          · have g45 : ¬ ((s.toNat : Nat) : Int) = 45 := by omega
            simp [hb2, h43, h45, g43, g45, onSum]
    · have hw' : ¬ a = x := fun e => hw e.symm
      simp [hw, hw', onSum]) (fun st => by
      unfold attrB
      simp) 7 0 st rfl
  rw [List.drop_zero, foldA s a st W7 0 (by decide)] at hl
  have hl : loopC (attrB s a) ((0 : Int), st) = _ := hl
  change (loopC (attrB s a) ((0 : Int), st)).bind _ = _
  rw [hl]
  unfold attrS
  simp only [Option.bind_some]
  cases at7 0 W7 a with
  | none => simp [onSum]
  | some i =>
    simp only [onSum]
    by_cases h1 : (BitVec.ofInt 64 st.2.2.1.1 ||| BitVec.ofInt 64 st.2.2.1.2.1).getLsbD i = true
    · simp [h1]
    · by_cases h2 : s.toNat = 43
      · simp [h1, h2]
      · by_cases h3 : s.toNat = 45 <;> simp [h1, h2, h3]
end Go.Fn
