/- Chapter 6, plainly: attributes. -/
import Derived.Test.YtkfcinmgebhbhaaDoorQAD
import Derived.Laws.RangeAny
import Derived.Test.YtkfcinmgebhbhaaDoorProg
import Derived.KernelRfl
import Derived.Test.YtkfcinmgebhbhaaDoorQAC
namespace Go.Fn
open Go Go.Lf

abbrev Sty := Bs × Bs × Chg × Unit
def W7 : List Bs := [[98, 111, 108, 100], [105, 116, 97, 108, 105, 99], [117, 110, 100, 101, 114], [115, 116, 114, 105, 107, 101], [109, 111, 110, 111], [115, 109, 97, 108, 108], [114, 101, 118, 101, 114, 115, 101]]
def at7 : Nat → List Bs → Bs → Option Nat
  | _, [], _ => none
  | i, x :: r, a => if x = a then some i else at7 (i + 1) r a
theorem words_eq : style_words = some W7 := by kernel_rfl
theorem rwords_eq : folioref06_Words = some W7 := by kernel_rfl
theorem lt7 {p : Nat → Prop} (h0 : p 0) (h1 : p 1) (h2 : p 2) (h3 : p 3) (h4 : p 4) (h5 : p 5) (h6 : p 6) : ∀ i, i < 7 → p i
  | 0, _ => h0 | 1, _ => h1 | 2, _ => h2 | 3, _ => h3 | 4, _ => h4 | 5, _ => h5 | 6, _ => h6
  | n + 7, h => absurd h (by omega)
theorem at7_lt : ∀ (l : List Bs) (k : Nat) (a : Bs) (i : Nat), at7 k l a = some i → k ≤ i ∧ i < k + l.length
  | [], k, a, i, h => by cases h
  | x :: r, k, a, i, h => by
    unfold at7 at h
    split at h
    · injection h with h; subst h; simp
    · have := at7_lt r (k + 1) a i h
      simp only [List.length_cons]
      omega
theorem shl_at : ∀ i : Nat, i < 7 → nn (i : Int) (IntKind.wrap .i64 ((1 : Int) * ((2 : Int) ^ (min (Int.toNat (i : Int)) (64 : Nat))))) = some (2 ^ i : Int) := lt7 (by decide) (by decide) (by decide) (by decide) (by decide) (by decide) (by decide)
theorem rshl_at : ∀ i : Nat, i < 7 → nn (IntKind.wrap .u64 (i : Int)) (IntKind.wrap .i64 ((1 : Int) * ((2 : Int) ^ (min (Int.toNat (IntKind.wrap .u64 (i : Int))) (64 : Nat))))) = some (2 ^ i : Int) := lt7 (by decide) (by decide) (by decide) (by decide) (by decide) (by decide) (by decide)
theorem num_val (X : BitVec 64) : num X = if X.toNat < 9223372036854775808 then (X.toNat : Int) else (X.toNat : Int) - 18446744073709551616 := by
  have h := X.isLt
  simp only [num, IntKind.wrap]
  simp [IntKind.bits, IntKind.signed]
  split <;> split <;> omega
theorem and_one (n : Int) : (Go.Lf.bits .and .i64 n 1 = 1) ↔ n % 2 = 1 := by
  rw [bits_and, show BitVec.ofInt 64 1 = 1#64 by decide]
  have h1 : (BitVec.ofInt 64 n &&& 1#64).toNat = (BitVec.ofInt 64 n).toNat % 2 := by
    rw [BitVec.toNat_and]; exact Nat.and_one_is_mod _
  have h2 : ((BitVec.ofInt 64 n).toNat : Int) = n % 18446744073709551616 := by simp [BitVec.toNat_ofInt]; omega
  rw [num_val, h1]
  split <;> omega
theorem bit_at (X : BitVec 64) : ∀ i : Nat, i < 7 → (Go.Lf.bits .and .i64 (Int.fdiv (num X) ((2 : Int) ^ (min (Int.toNat (i : Int)) (64 : Nat)))) 1 = 1 ↔ X.getLsbD i = true) := by
  have h := X.isLt
  have hv := num_val X
  have key : ∀ (i : Nat) (m : Nat), (2 : Int) ^ (min (Int.toNat (i : Int)) (64 : Nat)) = (m : Int) → 2 ^ i = m → 0 < m → 18446744073709551616 % (2 * m) = 0 → (Go.Lf.bits .and .i64 (Int.fdiv (num X) ((2 : Int) ^ (min (Int.toNat (i : Int)) (64 : Nat)))) 1 = 1 ↔ X.getLsbD i = true) := fun i m h1 h2 h3 h4 => by
    rw [and_one, h1, Int.fdiv_eq_ediv_of_nonneg _ (by omega)]
    have h5 : (X.getLsbD i = true) ↔ X.toNat / m % 2 = 1 := by
      rw [← BitVec.testBit_toNat, Nat.testBit_eq_decide_div_mod_eq, h2]
      simp
    rw [h5, hv]
    obtain ⟨q, hq⟩ := Nat.dvd_of_mod_eq_zero h4
    split
    · have : ((X.toNat : Int) / (m : Int)) = ((X.toNat / m : Nat) : Int) := (Int.natCast_ediv X.toNat m).symm
      rw [this]; omega
    · have e1 : (X.toNat : Int) - 18446744073709551616 = (X.toNat : Int) + (m : Int) * (-(2 * (q : Int))) := by
        have h7 : (m : Int) * (q : Int) = ((m * q : Nat) : Int) := (Int.natCast_mul m q).symm
        have h8 : 18446744073709551616 = 2 * (m * q) := by rw [← Nat.mul_assoc]; exact hq
        have h9 : (m : Int) * (-(2 * (q : Int))) = -(2 * ((m * q : Nat) : Int)) := by rw [Int.mul_neg, Int.mul_left_comm, h7]
        rw [h9]
        generalize m * q = p at h8
        omega
      rw [e1, Int.add_mul_ediv_left _ _ (by omega)]
      have : ((X.toNat : Int) / (m : Int)) = ((X.toNat / m : Nat) : Int) := (Int.natCast_ediv X.toNat m).symm
      rw [this]
      generalize X.toNat / m = y
      omega
  exact lt7 (key 0 1 (by decide) rfl (by decide) (by decide)) (key 1 2 (by decide) rfl (by decide) (by decide)) (key 2 4 (by decide) rfl (by decide) (by decide)) (key 3 8 (by decide) rfl (by decide) (by decide)) (key 4 16 (by decide) rfl (by decide) (by decide)) (key 5 32 (by decide) rfl (by decide) (by decide)) (key 6 64 (by decide) rfl (by decide) (by decide))
theorem and_pow (X : BitVec 64) : ∀ i : Nat, i < 7 → (Go.Lf.bits .and .i64 (num X) (2 ^ i : Int) = 0 ↔ X.getLsbD i = false) := by
  have key : ∀ (i : Nat), i < 64 → BitVec.ofInt 64 (2 ^ i : Int) = BitVec.twoPow 64 i → (Go.Lf.bits .and .i64 (num X) (2 ^ i : Int) = 0 ↔ X.getLsbD i = false) := fun i hi he => by
    rw [bits_and, num_inj, num_zero, he, BitVec.and_twoPow]
    cases hx : X.getLsbD i with
    | false => simp
    | true =>
      simp only [if_true]
      constructor
      · intro h
        have := congrArg (fun x : BitVec 64 => x.getLsbD i) h
        simp [BitVec.getLsbD_twoPow, hi] at this
      · intro h; cases h
  exact lt7 (key 0 (by decide) (by decide)) (key 1 (by decide) (by decide)) (key 2 (by decide) (by decide)) (key 3 (by decide) (by decide)) (key 4 (by decide) (by decide)) (key 5 (by decide) (by decide)) (key 6 (by decide) (by decide))
theorem rbit_eq (a : Bs) : folioref06_bit a = some (match at7 0 W7 a with | some i => (2 ^ i : Int) | none => 0) := by
  unfold folioref06_bit
  rw [rwords_eq]
  simp only [Option.bind_some]
  have h := range_loopI0 (l := W7) (κ := Unit ⊕ Int) (B := fun z2 => bif (decide (z2 < (((List.length W7) : Nat) : Int))) then ((Go.Lf.idx W7 z2)).bind fun r3 =>
     bif (decide ((r3 : List (UInt8)) = a)) then ((Go.Lf.nn (Go.IntKind.wrap .u64 z2) (Go.IntKind.wrap .i64 ((1 : Int) * ((2 : Int) ^ (Min.min (Int.toNat (Go.IntKind.wrap .u64 z2)) (64 : Nat))))))).bind fun r4 =>
     some (.inr (.inr r4))
     else some (.inl (Go.IntKind.wrap .i64 (z2 + (1 : Int))))
     else some (.inr (.inl ()))) (fun i x => if x = a then some (.inr (.inr (2 ^ i : Int))) else some (.inl ())) (.inl ()) (fun i x hx => by
      have hlt : i < 7 := (List.getElem?_eq_some_iff.1 hx).1
      have e1 : (i : Int) < ((W7.length : Nat) : Int) := by show (i : Int) < 7; omega
      rw [idx_nat, hx, wrapS (by omega), rshl_at i hlt]
      by_cases hw : x = a <;> simp [e1, hw, onSum]) (by simp) 7 0 rfl
  rw [List.drop_zero] at h
  have key : ∀ (l : List Bs) (k : Nat), foldI (fun i x (_ : Unit) => if x = a then some (.inr (.inr (2 ^ i : Int))) else some (.inl ())) (fun _ => (.inl () : Unit ⊕ Int)) k l () = some (match at7 k l a with | some i => .inr (2 ^ i : Int) | none => .inl ()) := fun l => by
    induction l with
    | nil => intro k; rfl
    | cons x r ih =>
      intro k
      unfold foldI at7
      by_cases hx : x = a
      · simp [hx, onSum]
      · simp only [hx, if_false, Option.bind_some, onSum]
        exact ih (k + 1)
  rw [key] at h
  have h : loopC _ (0 : Int) = _ := h
  rw [h]
  cases at7 0 W7 a <;> rfl

/-- an attribute's word, taken -/
def attrS (c : Chg) : Bs → Option Chg
  | [] => none
  | s :: a => match at7 0 W7 a with
    | none => none
    | some i => if (BitVec.ofInt 64 c.1 ||| BitVec.ofInt 64 c.2.1).getLsbD i then none
      else if s.toNat = 43 then some (Go.Lf.bits .or .i64 c.1 (2 ^ i : Int), c.2)
      else if s.toNat = 45 then some (c.1, Go.Lf.bits .or .i64 c.2.1 (2 ^ i : Int), c.2.2)
      else none
theorem W7_nodup {i j : Nat} {x : Bs} (hi : W7[i]? = some x) (hj : W7[j]? = some x) : i = j := by
  have hn : W7.Nodup := by decide
  exact (List.getElem?_inj (List.getElem?_eq_some_iff.1 hi).1 hn).1 (hi.trans hj.symm)
def stepA (s : UInt8) (a : Bs) (i : Nat) (x : Bs) (st : Sty) : Option (Sty ⊕ (Sty ⊕ (Bool × Sty))) :=
  if x = a then
    if (BitVec.ofInt 64 st.2.2.1.1 ||| BitVec.ofInt 64 st.2.2.1.2.1).getLsbD i then some (.inl st)
    else if s.toNat = 43 then some (.inr (.inr (true, st.1, st.2.1, (Go.Lf.bits .or .i64 st.2.2.1.1 (2 ^ i : Int), st.2.2.1.2), st.2.2.2)))
    else if s.toNat = 45 then some (.inr (.inr (true, st.1, st.2.1, (st.2.2.1.1, Go.Lf.bits .or .i64 st.2.2.1.2.1 (2 ^ i : Int), st.2.2.1.2.2), st.2.2.2)))
    else some (.inl st)
  else some (.inl st)
theorem foldA (s : UInt8) (a : Bs) (st : Sty) : ∀ (l : List Bs) (k : Nat), l.Nodup → foldI (stepA s a) (fun st => (.inl st : Sty ⊕ (Bool × Sty))) k l st = some (match at7 k l a with
    | none => .inl st
    | some i => if (BitVec.ofInt 64 st.2.2.1.1 ||| BitVec.ofInt 64 st.2.2.1.2.1).getLsbD i then .inl st
      else if s.toNat = 43 then .inr (true, st.1, st.2.1, (Go.Lf.bits .or .i64 st.2.2.1.1 (2 ^ i : Int), st.2.2.1.2), st.2.2.2)
      else if s.toNat = 45 then .inr (true, st.1, st.2.1, (st.2.2.1.1, Go.Lf.bits .or .i64 st.2.2.1.2.1 (2 ^ i : Int), st.2.2.1.2.2), st.2.2.2)
      else .inl st) := fun l => by
  have none_of : ∀ (l : List Bs) (k : Nat), a ∉ l → at7 k l a = none ∧ foldI (stepA s a) (fun st => (.inl st : Sty ⊕ (Bool × Sty))) k l st = some (.inl st) := fun l => by
    induction l with
    | nil => intro k _; exact ⟨rfl, rfl⟩
    | cons x r ih =>
      intro k hn
      have hx : ¬ x = a := fun e => hn (e ▸ List.mem_cons_self)
      obtain ⟨h1, h2⟩ := ih (k + 1) fun h => hn (List.mem_cons_of_mem _ h)
      unfold at7 foldI stepA
      simp only [hx, if_false, Option.bind_some, onSum]
      exact ⟨h1, h2⟩
  induction l with
  | nil => intro k _; rfl
  | cons x r ih =>
    intro k hn
    obtain ⟨h1, h2⟩ := List.nodup_cons.1 hn
    by_cases hx : x = a
    · subst hx
      obtain ⟨_, g2⟩ := none_of r (k + 1) h1
      unfold foldI at7
      rw [if_pos rfl]
      have hs : stepA s x k x st = (if (BitVec.ofInt 64 st.2.2.1.1 ||| BitVec.ofInt 64 st.2.2.1.2.1).getLsbD k then some (.inl st)
        else if s.toNat = 43 then some (.inr (.inr (true, st.1, st.2.1, (Go.Lf.bits .or .i64 st.2.2.1.1 (2 ^ k : Int), st.2.2.1.2), st.2.2.2)))
        else if s.toNat = 45 then some (.inr (.inr (true, st.1, st.2.1, (st.2.2.1.1, Go.Lf.bits .or .i64 st.2.2.1.2.1 (2 ^ k : Int), st.2.2.1.2.2), st.2.2.2)))
        else some (.inl st)) := by unfold stepA; rw [if_pos rfl]
      rw [hs]
      cases hb : (BitVec.ofInt 64 st.2.2.1.1 ||| BitVec.ofInt 64 st.2.2.1.2.1).getLsbD k with
      | true => simp only [if_true, Option.bind_some, onSum, hb]; exact g2
      | false =>
        by_cases h43 : s.toNat = 43
        · simp [onSum, hb, h43]
        · by_cases h45 : s.toNat = 45
          · simp [onSum, hb, h45]
          · simp only [Bool.false_eq_true, if_false, h43, h45, Option.bind_some, onSum, hb]; exact g2
    · unfold foldI at7
      rw [if_neg hx]
      unfold stepA
      simp only [hx, if_false, Option.bind_some, onSum]
      exact ih (k + 1) h2
def attrB (s : UInt8) (a : Bs) (z : Int × Sty) : Option ((Int × Sty) ⊕ (Sty ⊕ (Bool × Sty))) :=
 (bif (decide (z.1 < (((List.length W7) : Nat) : Int))) then (((Go.Lf.idx W7 z.1)).bind fun r3 =>
       (((Go.Lf.sub (s :: a) (1 : Int) (((List.length (s :: a)) : Nat) : Int))).bind fun r4 =>
         bif (!(decide ((r4 : List (UInt8)) ≠ r3))) then ((Go.Lf.nn z.1 (Int.fdiv (Go.Lf.bits .or .i64 z.2.2.2.1.1 z.2.2.2.1.2.1) ((2 : Int) ^ (Min.min (Int.toNat z.1) (64 : Nat)))))).bind fun r5 =>
         some ((decide (((Go.Lf.bits .and .i64 r5 (1 : Int)) : Int) = (1 : Int))), z.2)
         else some (true, z.2)).bind fun r6 =>
       bif r6.1 then some (.inl r6.2)
       else ((Go.Lf.idx (s :: a) (0 : Int))).bind fun r7 =>
       bif (decide (((((UInt8.toNat r7) : Nat) : Int) : Int) = (43 : Int))) then ((Go.Lf.nn z.1 (Go.IntKind.wrap .i64 ((1 : Int) * ((2 : Int) ^ (Min.min (Int.toNat z.1) (64 : Nat))))))).bind fun r8 =>
       some (.inr (true, (r6.2.1, (r6.2.2.1, (((Go.Lf.bits .or .i64 r6.2.2.2.1.1 r8), r6.2.2.2.1.2), r6.2.2.2.2)))))
       else bif (decide (((((UInt8.toNat r7) : Nat) : Int) : Int) = (45 : Int))) then ((Go.Lf.nn z.1 (Go.IntKind.wrap .i64 ((1 : Int) * ((2 : Int) ^ (Min.min (Int.toNat z.1) (64 : Nat))))))).bind fun r9 =>
       some (.inr (true, (r6.2.1, (r6.2.2.1, ((r6.2.2.2.1.1, ((Go.Lf.bits .or .i64 r6.2.2.2.1.2.1 r9), r6.2.2.2.1.2.2)), r6.2.2.2.2)))))
       else some (.inl r6.2) : Option (((List (UInt8)) × ((List (UInt8)) × (((Int) × ((Int) × ((Int) × (Unit)))) × (Unit)))) ⊕ ((Bool) × ((List (UInt8)) × ((List (UInt8)) × (((Int) × ((Int) × ((Int) × (Unit)))) × (Unit))))))).bind fun r10 =>
     Go.Lf.onSum r10 (fun a11 =>
     some (.inl ((Go.IntKind.wrap .i64 (z.1 + (1 : Int))), a11))) (fun b12 =>
     some (.inr (.inr (b12.1, b12.2))))
     else some (.inr (.inl z.2)))
theorem attr_eq (st : Sty) (s : UInt8) (a : Bs) (ha : a.length < 9223372036854775807) : style_attribute st (s :: a) = some (match attrS st.2.2.1 (s :: a) with
    | none => (false, st)
    | some c => (true, st.1, st.2.1, c, st.2.2.2)) := by
  unfold style_attribute
  rw [words_eq]
  simp only [Option.bind_some]
  have hsub : sub (s :: a) 1 (((s :: a).length : Nat) : Int) = some a := by
    have := sub_nat (l := s :: a) (a := 1) (b := (s :: a).length) (by simp) (Nat.le_refl _)
    simpa using this
  have hidx : idx (s :: a) 0 = some s := rfl
  have hl := range_loopI (l := W7) (σ := Sty) (κ := Sty ⊕ (Bool × Sty)) (B := attrB s a) (stepA s a) .inl (fun i x st hx => by
    have hlt : i < 7 := (List.getElem?_eq_some_iff.1 hx).1
    have e1 : (i : Int) < ((W7.length : Nat) : Int) := by show (i : Int) < 7; omega
    show attrB s a ((i : Int), st) = _
    unfold attrB
    dsimp only
    have hnn : nn (i : Int) (Int.fdiv (Go.Lf.bits .or .i64 st.2.2.1.1 st.2.2.1.2.1) ((2 : Int) ^ (Min.min (Int.toNat (i : Int)) (64 : Nat)))) = some (Int.fdiv (num (BitVec.ofInt 64 st.2.2.1.1 ||| BitVec.ofInt 64 st.2.2.1.2.1)) ((2 : Int) ^ (Min.min (Int.toNat (i : Int)) (64 : Nat)))) := by
      unfold nn
      rw [if_neg (by omega), bits_or]
    rw [idx_nat, hx, hsub, hidx, wrapS (by omega), shl_at i hlt, hnn]
    unfold stepA
    simp only [e1, decide_true, cond_true, Option.bind_some]
    by_cases hw : x = a
    · subst hw
      have hb := bit_at (BitVec.ofInt 64 st.2.2.1.1 ||| BitVec.ofInt 64 st.2.2.1.2.1) i hlt
      revert hb
      generalize Int.fdiv (num (BitVec.ofInt 64 st.2.2.1.1 ||| BitVec.ofInt 64 st.2.2.1.2.1)) ((2 : Int) ^ (Min.min (Int.toNat (i : Int)) (64 : Nat))) = q
      intro hb
      cases hbit : (BitVec.ofInt 64 st.2.2.1.1 ||| BitVec.ofInt 64 st.2.2.1.2.1).getLsbD i with
      | true => simp [hb.2 hbit, onSum]
      | false =>
        have hb2 := mt hb.1 (by rw [hbit]; simp)
        by_cases h43 : s.toNat = 43
        · have : ((s.toNat : Nat) : Int) = 43 := by omega
          simp [hb2, h43, onSum]
        · have g43 : ¬ ((s.toNat : Nat) : Int) = 43 := by omega
          by_cases h45 : s.toNat = 45
          · simp [hb2, h45, onSum]
          · have g45 : ¬ ((s.toNat : Nat) : Int) = 45 := by omega
            simp [hb2, h43, h45, g43, g45, onSum]
    · have hw' : ¬ a = x := fun e => hw e.symm
      simp [hw, hw', onSum]) (fun st => by
      unfold attrB
      simp) 7 0 st rfl
  rw [List.drop_zero, foldA s a st W7 0 (by decide)] at hl
  have hl : loopC (attrB s a) ((0 : Int), st) = _ := hl
  change (loopC (attrB s a) ((0 : Int), st)).bind _ = _
  rw [hl]
  unfold attrS
  simp only [Option.bind_some]
  cases at7 0 W7 a with
  | none => simp [onSum]
  | some i =>
    simp only [onSum]
    by_cases h1 : (BitVec.ofInt 64 st.2.2.1.1 ||| BitVec.ofInt 64 st.2.2.1.2.1).getLsbD i = true
    · simp [h1]
    · by_cases h2 : s.toNat = 43
      · simp [h1, h2]
      · by_cases h3 : s.toNat = 45 <;> simp [h1, h2, h3]
end Go.Fn
/- Chapter 6, plainly: the words of a text. -/
namespace Go.Fn
open Go Go.Lf

/-- words parted by blanks -/
def shut (acc : List Bs) (cur : Bs) : List Bs := if cur = [] then acc else acc ++ [cur]
def sp : List Bs → Bs → Bs → List Bs
  | acc, cur, [] => shut acc cur
  | acc, cur, b :: r => if b.toNat = 32 then sp (shut acc cur) [] r else sp acc (cur ++ [b]) r
theorem sp_cons (acc : List Bs) (cur : Bs) (b : UInt8) (r : Bs) : sp acc cur (b :: r) = if b.toNat = 32 then sp (shut acc cur) [] r else sp acc (cur ++ [b]) r := rfl
theorem sp_skip : ∀ (xs : Bs) (acc : List Bs) (cur r : Bs), (∀ b ∈ xs, b.toNat ≠ 32) → sp acc cur (xs ++ r) = sp acc (cur ++ xs) r
  | [], acc, cur, r, _ => by simp
  | x :: xs, acc, cur, r, h => by
    have h1 := h x List.mem_cons_self
    rw [List.cons_append, sp_cons, if_neg h1, sp_skip xs acc (cur ++ [x]) r fun b hb => h b (List.mem_cons_of_mem _ hb)]
    simp [List.append_assoc]
theorem shut_len (acc : List Bs) (cur : Bs) : (shut acc cur).length ≤ acc.length + cur.length := by
  unfold shut
  split
  · omega
  · rename_i h
    have : cur.length ≠ 0 := fun e => h (List.length_eq_zero_iff.1 e)
    simp; omega
theorem sp_len : ∀ (r : Bs) (acc : List Bs) (cur : Bs), (sp acc cur r).length ≤ acc.length + cur.length + r.length
  | [], acc, cur => by unfold sp; have := shut_len acc cur; simpa using this
  | b :: r, acc, cur => by
    unfold sp
    split
    · have h1 := sp_len r (shut acc cur) []
      have h2 := shut_len acc cur
      simp at h1 ⊢; omega
    · have h1 := sp_len r acc (cur ++ [b])
      simp at h1 ⊢; omega
theorem sp_words : ∀ (r : Bs) (acc : List Bs) (cur : Bs) (n : Nat), (∀ x ∈ acc, x ≠ [] ∧ x.length ≤ n) → cur.length + r.length ≤ n → ∀ x ∈ sp acc cur r, x ≠ [] ∧ x.length ≤ n := by
  have hs : ∀ (acc : List Bs) (cur : Bs) (n : Nat), (∀ x ∈ acc, x ≠ [] ∧ x.length ≤ n) → cur.length ≤ n → ∀ x ∈ shut acc cur, x ≠ [] ∧ x.length ≤ n := fun acc cur n h hc x hx => by
    unfold shut at hx
    split at hx
    · exact h x hx
    · rename_i hne
      rcases List.mem_append.1 hx with h1 | h1
      · exact h x h1
      · rw [List.mem_singleton.1 h1]; exact ⟨hne, hc⟩
  intro r
  induction r with
  | nil => intro acc cur n h hc; exact hs acc cur n h (by simpa using hc)
  | cons b r ih =>
    intro acc cur n h hc
    unfold sp
    simp only [List.length_cons] at hc
    split
    · exact ih _ _ n (hs acc cur n h (by omega)) (by simp; omega)
    · exact ih _ _ n h (by simp; omega)

theorem take_succ_at {s : Bs} {a i : Nat} {b : UInt8} (h : a ≤ i) (hb : s[i]? = some b) : (s.drop a).take (i + 1 - a) = (s.drop a).take (i - a) ++ [b] := by
  rw [show i + 1 - a = (i - a) + 1 by omega, List.take_add_one, List.getElem?_drop, show a + (i - a) = i by omega, hb]; rfl
theorem rwords_loop (s : Bs) (hs : s.length ≤ 4096) : folioref06_words s = some (sp [] [] s) := by
  unfold folioref06_words
  have key : ∀ (B : Int × Int × List Bs → Option ((Int × Int × List Bs) ⊕ List Bs)), (∀ z1, B z1 = (bif (decide (z1.1 ≤ (((List.length s) : Nat) : Int))) then ((bif (decide (z1.1 < (((List.length s) : Nat) : Int))) then ((Go.Lf.idx s z1.1)).bind fun r2 =>
         some ((decide (((((UInt8.toNat r2) : Nat) : Int) : Int) ≠ (32 : Int))), z1.2.2)
         else some (false, z1.2.2)).bind fun r3 =>
       bif r3.1 then some (z1.2.1, r3.2)
       else (bif (decide (z1.2.1 < z1.1)) then ((Go.Lf.sub s z1.2.1 z1.1)).bind fun r4 =>
         ((Go.Lf.app (16 : Nat) r3.2 (r4 :: ([] : List (List (UInt8)))))).bind fun r5 =>
         some r5
         else some r3.2).bind fun r6 =>
       some ((Go.IntKind.wrap .i64 (z1.1 + (1 : Int))), r6)).bind fun r7 =>
     some (.inl ((Go.IntKind.wrap .i64 (z1.1 + (1 : Int))), (r7.1, r7.2)))
     else some (.inr z1.2.2))) → ∀ (m i a : Nat) (out : List Bs), i + m = s.length → a ≤ i → out.length ≤ i → loopC B ((i : Int), (a : Int), out) = some (sp out ((s.drop a).take (i - a)) (s.drop i)) := fun B hB => by
    have hsh : ∀ (i a : Nat) (out : List Bs), i ≤ s.length → a ≤ i → out.length ≤ i → (bif (decide ((a : Int) < (i : Int))) then ((Go.Lf.sub s (a : Int) (i : Int))).bind fun r4 =>
         ((Go.Lf.app (16 : Nat) out (r4 :: ([] : List (List (UInt8)))))).bind fun r5 =>
         some r5
         else some out) = some (shut out ((s.drop a).take (i - a))) := fun i a out hi ha ho => by
      by_cases h : a < i
      · have h' : (a : Int) < i := by omega
        have hne : (s.drop a).take (i - a) ≠ [] := fun e => by
          have := congrArg List.length e
          simp at this; omega
        simp only [h', decide_true, cond_true, sub_nat ha hi, Option.bind_some]
        rw [app_of (by simp; omega)]
        unfold shut
        rw [if_neg hne]; rfl
      · have h' : ¬ (a : Int) < i := by omega
        have : i - a = 0 := by omega
        simp [h', this, shut]
    intro m
    induction m with
    | zero =>
      intro i a out hi ha ho
      have hi : i = s.length := by omega
      have e1 : (i : Int) ≤ (s.length : Int) := by omega
      have e2 : ¬ (i : Int) < (s.length : Int) := by omega
      rw [loopC_step, hB]
      simp only [e1, e2, decide_true, decide_false, cond_true, cond_false, Option.bind_some, hsh i a out (by omega) ha ho]
      rw [wrapS (by omega), loopC_step, hB]
      have e3 : ¬ ((i + 1 : Nat) : Int) ≤ (s.length : Int) := by omega
      simp only [e3, decide_false, cond_false, Option.bind_some]
      rw [List.drop_of_length_le (l := s) (i := i) (by omega)]
      rfl
    | succ m ih =>
      intro i a out hi ha ho
      have e1 : (i : Int) ≤ (s.length : Int) := by omega
      have e2 : (i : Int) < (s.length : Int) := by omega
      have hlt : i < s.length := by omega
      have hg : s[i]? = some s[i] := List.getElem?_eq_getElem hlt
      rw [loopC_step, hB, List.drop_eq_getElem_cons hlt]
      simp only [e1, e2, decide_true, cond_true, Option.bind_some, idx_nat, hg]
      unfold sp
      by_cases h32 : s[i].toNat = 32
      · have e3 : decide (((s[i].toNat : Nat) : Int) ≠ 32) = false := decide_eq_false (by omega)
        have hl : (shut out ((s.drop a).take (i - a))).length ≤ i + 1 := by
          unfold shut
          split
          · omega
          · simp only [List.length_append, List.length_singleton]; omega
        rw [if_pos h32]
        simp only [e3, cond_false, Option.bind_some, hsh i a out (by omega) ha ho]
        rw [wrapS (by omega), ih (i + 1) (i + 1) _ (by omega) (by omega) hl]
        simp
      · have e3 : decide (((s[i].toNat : Nat) : Int) ≠ 32) = true := decide_eq_true (by omega)
        rw [if_neg h32]
        simp only [e3, cond_true, Option.bind_some]
        rw [wrapS (by omega), ih (i + 1) a out (by omega) (by omega) (by omega), take_succ_at ha hg]
  have h := key _ (fun _ => rfl) s.length 0 0 [] (by omega) (by omega) (by simp)
  have h : loopC _ ((0 : Int), (0 : Int), ([] : List Bs)) = _ := h
  rw [h]
  simp

/-- what a rune of more than one byte skips -/
theorem decode_cont (s : ByteArray) (pos k : Nat) (hk : 0 < k) (h : k < (Utf8.decode s pos).2) : pos + k < s.size ∧ (s.get! (pos + k)).toNat / 64 = 2 := by
  simp only [Utf8.decode] at h
  repeat' split at h
  all_goals simp_all
  all_goals first
    | omega
    | (have h1 : k = 1 := by omega
       subst h1; omega)
    | (have h1 : k = 1 ∨ k = 2 := by omega
       rcases h1 with rfl | rfl <;> omega)
    | (have h1 : k = 1 ∨ k = 2 ∨ k = 3 := by omega
       rcases h1 with rfl | rfl | rfl <;> omega)
theorem getS (s : Bs) (i : Nat) (h : i < s.length) : (⟨s.toArray⟩ : ByteArray).get! i = s[i] := by
  simp [ByteArray.get!, h]
theorem extS (s : Bs) (a b : Nat) : ((⟨s.toArray⟩ : ByteArray).extract a b).data.toList = (s.drop a).take (b - a) := by
  simp [ByteArray.data_extract, List.extract_eq_take_drop]
theorem is32 (r : Nat) : decide ((r : Int) = 32) = decide (r = 32) := by
  by_cases h : r = 32
  · subst h; rfl
  · have : ¬ (r : Int) = 32 := by omega
    simp [h, this]
/-- the pieces that the library cuts -/
def piece (s : Bs) (x : Nat × Nat) : Bs := (s.drop x.1).take (x.2 - x.1)
theorem fields_go (s : Bs) : ∀ (f pos : Nat) (st : Option Nat) (acc : List (Nat × Nat)), s.length ≤ f + pos → pos ≤ s.length → (∀ a, st = some a → a < pos) →
    (Lib.closeSpans ⟨s.toArray⟩ (Lib.spansFromP (fun r => decide ((r : Int) = 32)) ⟨s.toArray⟩ f pos st acc)).map (piece s) = sp (acc.map (piece s)) (match st with | none => [] | some a => piece s (a, pos)) (s.drop pos) := by
  have hsz : (⟨s.toArray⟩ : ByteArray).size = s.length := rfl
  have hend : ∀ (f pos : Nat) (st : Option Nat) (acc : List (Nat × Nat)), pos = s.length → (∀ a, st = some a → a < pos) → (Lib.closeSpans ⟨s.toArray⟩ (Lib.spansFromP (fun r => decide ((r : Int) = 32)) ⟨s.toArray⟩ f pos st acc)).map (piece s) = sp (acc.map (piece s)) (match st with | none => [] | some a => piece s (a, pos)) (s.drop pos) := fun f pos st acc hp hst => by
    subst hp
    rw [Lib.spansFromP_end _ _ _ _ _ _ (by rw [hsz]; omega), List.drop_length]
    cases st with
    | none => simp [Lib.closeSpans, sp, shut]
    | some a =>
      have ha := hst a rfl
      have hne : piece s (a, s.length) ≠ [] := fun e => by
        have := congrArg List.length e
        simp [piece] at this; omega
      simp only [Lib.closeSpans, sp, shut, hne, if_false, hsz]
      simp
  intro f
  induction f with
  | zero => intro pos st acc h1 h2 h3; exact hend 0 pos st acc (by omega) h3
  | succ f ih =>
    intro pos st acc h1 h2 h3
    by_cases hp : pos < s.length
    · have hg : s[pos]? = some s[pos] := List.getElem?_eq_getElem hp
      have hd : s.drop pos = s[pos] :: s.drop (pos + 1) := List.drop_eq_getElem_cons hp
      have hat : (⟨s.toArray⟩ : ByteArray)[pos]'hp = s[pos] := rfl
      unfold Lib.spansFromP
      rw [if_pos (show pos < (⟨s.toArray⟩ : ByteArray).size from hp)]
      by_cases hlo : s[pos].toNat < 128
      · have hdec : Utf8.decode (⟨s.toArray⟩ : ByteArray) pos = (s[pos].toNat, 1) := decode_ascii (⟨s.toArray⟩ : ByteArray) pos hp hlo
        rw [hdec]
        dsimp only
        rw [is32]
        by_cases h32 : s[pos].toNat = 32
        · rw [h32, hd]
          simp only [decide_true, if_true]
          rw [sp_cons, if_pos h32]
          cases st with
          | none =>
            dsimp only
            rw [ih (pos + 1) none acc (by omega) (by omega) (fun a h => by cases h)]
            rfl
          | some a =>
            have ha := h3 a rfl
            dsimp only
            have hne : piece s (a, pos) ≠ [] := fun e => by
              have := congrArg List.length e
              simp [piece] at this; omega
            rw [ih (pos + 1) none _ (by omega) (by omega) (fun a h => by cases h)]
            simp only [shut, hne, if_false, List.map_append, List.map_cons, List.map_nil]
        · simp only [h32, decide_false, Bool.false_eq_true, if_false]
          rw [hd, sp_cons, if_neg h32]
          cases st with
          | none =>
            dsimp only
            rw [ih (pos + 1) (some pos) acc (by omega) (by omega) (fun a h => by cases h; omega)]
            dsimp only
            congr 1
            unfold piece
            dsimp only
            rw [hd, show pos + 1 - pos = 1 by omega]; rfl
          | some a =>
            have ha := h3 a rfl
            dsimp only
            rw [ih (pos + 1) (some a) acc (by omega) (by omega) (fun b h => by cases h; omega)]
            dsimp only
            congr 1
            exact take_succ_at (by omega) hg
      · have hhi := decode_high (⟨s.toArray⟩ : ByteArray) pos hp (by rw [hat]; omega)
        have hco := decode_cont (⟨s.toArray⟩ : ByteArray) pos
        revert hhi hco
        generalize Utf8.decode (⟨s.toArray⟩ : ByteArray) pos = d
        obtain ⟨r, n⟩ := d
        intro hhi hco
        dsimp only at hhi hco ⊢
        have hn : pos + n ≤ s.length := by
          by_cases h : n = 1
          · omega
          · have := (hco (n - 1) (by omega) (by omega)).1
            rw [hsz] at this; omega
        have hr : decide ((r : Int) = 32) = false := decide_eq_false (by omega)
        have hsplit : s.drop pos = (s.drop pos).take n ++ s.drop (pos + n) := by
          rw [← List.drop_drop]; exact (List.take_append_drop n (s.drop pos)).symm
        have hall : ∀ b ∈ (s.drop pos).take n, b.toNat ≠ 32 := fun b hb => by
          obtain ⟨k, hk, rfl⟩ := List.mem_iff_getElem.1 hb
          simp only [List.length_take, List.length_drop] at hk
          rw [List.getElem_take, List.getElem_drop]
          by_cases h0 : k = 0
          · subst h0
            simp only [Nat.add_zero]; omega
          · have := (hco k (by omega) (by omega)).2
            rw [getS s (pos + k) (by omega)] at this
            omega
        rw [hsplit, sp_skip _ _ _ _ hall]
        simp only [hr, Bool.false_eq_true, if_false]
        cases st with
        | none =>
          dsimp only
          rw [ih (pos + n) (some pos) acc (by omega) hn (fun a h => by cases h; omega)]
          dsimp only
          congr 1
          unfold piece
          simp
        | some a =>
          have ha := h3 a rfl
          dsimp only
          rw [ih (pos + n) (some a) acc (by omega) hn (fun b h => by cases h; omega)]
          dsimp only
          congr 1
          unfold piece
          dsimp only
          rw [show pos + n - a = (pos - a) + n by omega, List.take_add, List.drop_drop, show a + (pos - a) = pos by omega]
    · exact hend (f + 1) pos st acc (by omega) h3
theorem fields_eq (s : Bs) (hs : s.length ≤ 4096) : strings_FieldsFunc s () = some (sp [] [] s) := by
  unfold strings_FieldsFunc
  rw [if_pos (by omega)]
  have h := fields_go s s.length 0 none [] (by omega) (by omega) (fun a h => by cases h)
  rw [List.drop_zero] at h
  rw [← show _ = sp [] [] s from h]
  unfold Lib.goFieldsP Lib.spansOfP
  rw [List.map_map]
  congr 1
  refine List.map_congr_left fun x _ => ?_
  exact extS s x.1 x.2
end Go.Fn
/- Chapter 6, plainly: a text read. -/
namespace Go.Fn
open Go Go.Lf

/-- the first colon -/
def p58 : Bs → Option Nat
  | [] => none
  | b :: r => if b.toNat = 58 then some 0 else (p58 r).map (· + 1)
theorem p58_lt : ∀ (s : Bs) (i : Nat), p58 s = some i → i < s.length
  | [], i, h => by cases h
  | b :: r, i, h => by
    unfold p58 at h
    split at h
    · injection h with h; subst h; simp
    · cases hr : p58 r with
      | none => rw [hr] at h; cases h
      | some j =>
        rw [hr] at h
        have := p58_lt r j hr
        have h : j + 1 = i := by injection h
        simp only [List.length_cons]; omega
theorem byte_eq {b c : UInt8} : b = c ↔ b.toNat = c.toNat := ⟨fun h => by rw [h], fun h => UInt8.toNat_inj.1 h⟩
theorem index58 : ∀ s : Bs, Lib.index s [58] = match p58 s with | none => -1 | some i => (i : Int)
  | [] => rfl
  | b :: r => by
    have ih := index58 r
    unfold Lib.index p58
    by_cases hb : b.toNat = 58
    · have : b = 58 := byte_eq.2 (by rw [hb]; rfl)
      subst this
      simp [List.isPrefixOf]
    · have h1 : ¬ (58 : UInt8) = b := fun e => hb (by rw [← e]; rfl)
      have h2 : ([58] : Bs).isPrefixOf (b :: r) = false := by simp [List.isPrefixOf, h1]
      rw [h2, ih]
      simp only [hb, if_false, Bool.false_eq_true]
      cases p58 r with
      | none => rfl
      | some i =>
        have : ((i : Int) == -1) = false := by simp
        simp only [this]
        rfl
theorem cut58 (s : Bs) : Lib.cut s [58] = match p58 s with | none => (s, [], false) | some i => (s.take i, s.drop (i + 1), true) := by
  unfold Lib.cut
  rw [index58]
  cases p58 s with
  | none => rfl
  | some i => simp
/-- a style's own name and its base's -/
def nm (s : Bs) : Bs × Bs × Bool := match p58 s with
  | none => (s, [], okName s)
  | some i => (s.take i, s.drop (i + 1), okName (s.take i) && okName (s.drop (i + 1)))
theorem rnames_eq (s : Bs) (hs : s.length ≤ 4096) : folioref06_names s = some (nm s) := by
  unfold folioref06_names
  have h := range_loopI0 (l := s) (κ := Unit ⊕ (Bs × Bs × Bool)) (B := fun z1 => bif (decide (z1 < (((List.length s) : Nat) : Int))) then ((Go.Lf.idx s z1)).bind fun r2 =>
     bif (decide (((((UInt8.toNat r2) : Nat) : Int) : Int) = (58 : Int))) then (((Go.Lf.sub s (0 : Int) z1)).bind fun r3 =>
       ((Go.Lf.sub s (Go.IntKind.wrap .i64 (z1 + (1 : Int))) (((List.length s) : Nat) : Int))).bind fun r4 =>
       ((Go.Lf.sub s (0 : Int) z1)).bind fun r5 =>
       ((Go.Fn.folioref06_Name r5)).bind fun r6 =>
       bif r6 then ((Go.Lf.sub s (Go.IntKind.wrap .i64 (z1 + (1 : Int))) (((List.length s) : Nat) : Int))).bind fun r7 =>
       ((Go.Fn.folioref06_Name r7)).bind fun r8 =>
       some (r3, (r4, r8))
       else some (r3, (r4, false))).bind fun r9 =>
     some (.inr (.inr (r9.1, (r9.2.1, r9.2.2))))
     else some (.inl (Go.IntKind.wrap .i64 (z1 + (1 : Int))))
     else some (.inr (.inl ()))) (fun i b => if b.toNat = 58 then some (.inr (.inr (s.take i, s.drop (i + 1), okName (s.take i) && okName (s.drop (i + 1))))) else some (.inl ())) (.inl ()) (fun i x hx => by
      have hlt : i < s.length := (List.getElem?_eq_some_iff.1 hx).1
      have e1 : (i : Int) < ((s.length : Nat) : Int) := by omega
      have e2 : sub s 0 (i : Int) = some (s.take i) := by
        have := sub_nat (l := s) (a := 0) (b := i) (by omega) (by omega)
        simpa using this
      have e3 : sub s ((i + 1 : Nat) : Int) ((s.length : Nat) : Int) = some (s.drop (i + 1)) := by
        rw [sub_nat (by omega) (by omega)]
        rw [List.take_of_length_le (by simp)]
      rw [idx_nat, hx, wrapS (by omega)]
      simp only [e1, decide_true, cond_true, Option.bind_some, e2, e3]
      rw [rname_eq _ (by simp; omega), rname_eq _ (by simp; omega)]
      by_cases h58 : x.toNat = 58
      · have : ((x.toNat : Nat) : Int) = 58 := by omega
        cases hk : okName (s.take i) <;> simp [h58, onSum]
      · have : ¬ ((x.toNat : Nat) : Int) = 58 := by omega
        simp [h58, this, onSum]) (by simp) s.length 0 (by omega)
  rw [List.drop_zero] at h
  have key : ∀ (l : Bs) (k : Nat), foldI (fun i b (_ : Unit) => if b.toNat = 58 then some (.inr (.inr (s.take i, s.drop (i + 1), okName (s.take i) && okName (s.drop (i + 1))))) else some (.inl ())) (fun _ => (.inl () : Unit ⊕ (Bs × Bs × Bool))) k l () = some (match p58 l with | some i => .inr (s.take (k + i), s.drop (k + i + 1), okName (s.take (k + i)) && okName (s.drop (k + i + 1))) | none => .inl ()) := fun l => by
    induction l with
    | nil => intro k; rfl
    | cons x r ih =>
      intro k
      unfold foldI p58
      by_cases hx : x.toNat = 58
      · simp [hx, onSum]
      · simp only [hx, if_false, Option.bind_some, onSum]
        rw [ih (k + 1)]
        cases p58 r with
        | none => rfl
        | some i => simp only [Option.map_some, show k + 1 + i = k + (i + 1) by omega]
  rw [key] at h
  have h : loopC _ (0 : Int) = _ := h
  rw [h, rname_eq s (by omega)]
  unfold nm
  cases p58 s with
  | none => rfl
  | some i => simp [onSum]

abbrev COLOR : Bs := [99, 111, 108, 111, 114]
/-- the words behind the first -/
def pw : Bool → Sty → List Bs → Option Sty
  | false, st, [] => some st
  | true, _, [] => none
  | true, st, w :: r => match colS w with
    | some n => if st.2.2.1.2.2.1 = -1 then pw false (st.1, st.2.1, (st.2.2.1.1, st.2.2.1.2.1, (n : Int), ()), ()) r else none
    | none => none
  | false, st, w :: r => if w = COLOR then pw true st r else match attrS st.2.2.1 w with
    | some c => pw false (st.1, st.2.1, c, ()) r
    | none => none
def zs : Sty := ([], [], (0, 0, 0, ()), ())
theorem plain_eq : style_plain = some (0, 0, -1, ()) := by kernel_rfl
theorem none_eq : folioref06_None = some (0, 0, -1, ()) := by kernel_rfl
end Go.Fn
/- Chapter 6, plainly: a text read, by the style. -/
namespace Go.Fn
open Go Go.Lf

abbrev CLR : Bs := ((99 : UInt8) :: ((111 : UInt8) :: ((108 : UInt8) :: ((111 : UInt8) :: ((114 : UInt8) :: ([] : List (UInt8)))))))
/-- the style's step -/
noncomputable def sB (r1 : List Bs) (z8 : Int × Sty × Sty) : Option ((Int × Sty × Sty) ⊕ ((Sty × Sty) ⊕ (Int × Sty))) :=
     bif (decide (z8.1 < (((List.length r1) : Nat) : Int))) then (((Go.Lf.idx r1 z8.1)).bind fun r9 =>
       bif (decide ((r9 : List (UInt8)) = CLR)) then ((Go.Lf.sub r1 (Go.IntKind.wrap .i64 (z8.1 + (1 : Int))) (((List.length r1) : Nat) : Int))).bind fun r10 =>
       ((Go.Fn.style_color r10)).bind fun r11 =>
       (bif (!(!r11.2)) then some ((decide ((z8.2.2.2.2.1.2.2.1 : Int) ≠ (-(1 : Int)))), (z8.2.1, z8.2.2))
         else some (true, (z8.2.1, z8.2.2))).bind fun r12 =>
       bif r12.1 then some (.inl ((67 : Int), (([] : List (UInt8)), (([] : List (UInt8)), (((0 : Int), ((0 : Int), ((0 : Int), ()))), ())))))
       else some (.inr ((Go.IntKind.wrap .i64 (z8.1 + (1 : Int))), (r12.2.1, (r12.2.2.1, (r12.2.2.2.1, ((r12.2.2.2.2.1.1, (r12.2.2.2.2.1.2.1, (r11.1, r12.2.2.2.2.1.2.2.2))), r12.2.2.2.2.2))))))
       else ((Go.Lf.idx r1 z8.1)).bind fun r13 =>
       ((Go.Fn.style_attribute z8.2.2 r13)).bind fun r14 =>
       bif (!r14.1) then some (.inl ((67 : Int), (([] : List (UInt8)), (([] : List (UInt8)), (((0 : Int), ((0 : Int), ((0 : Int), ()))), ())))))
       else some (.inr (z8.1, (z8.2.1, r14.2))) : Option (((Int) × ((List (UInt8)) × ((List (UInt8)) × (((Int) × ((Int) × ((Int) × (Unit)))) × (Unit))))) ⊕ ((Int) × (((List (UInt8)) × ((List (UInt8)) × (((Int) × ((Int) × ((Int) × (Unit)))) × (Unit)))) × ((List (UInt8)) × ((List (UInt8)) × (((Int) × ((Int) × ((Int) × (Unit)))) × (Unit)))))))).bind fun r15 =>
     Go.Lf.onSum r15 (fun a16 =>
     some (.inr (.inr (a16.1, a16.2)))) (fun b17 =>
     some (.inl ((Go.IntKind.wrap .i64 (b17.1 + (1 : Int))), (b17.2.1, b17.2.2))))
     else some (.inr (.inl (z8.2.1, z8.2.2)))
theorem s_end (ws : List Bs) (B : Int × Sty × Sty → Option ((Int × Sty × Sty) ⊕ ((Sty × Sty) ⊕ (Int × Sty)))) (hB : ∀ z, B z = sB ws z) (z0 st : Sty) : loopC B (((ws.length : Nat) : Int), z0, st) = some (.inl (z0, st)) := by
  rw [loopC_step, hB]
  simp [sB]
theorem s_loop (ws : List Bs) (hw : ∀ x ∈ ws, x ≠ [] ∧ x.length ≤ 4096) (hn : ws.length ≤ 4096) (B : Int × Sty × Sty → Option ((Int × Sty × Sty) ⊕ ((Sty × Sty) ⊕ (Int × Sty)))) (hB : ∀ z, B z = sB ws z) (z0 : Sty) : ∀ (n m i : Nat) (st : Sty), m ≤ n → i + m = ws.length →
    loopC B ((i : Int), z0, st) = some (match pw false st (ws.drop i) with | some st' => .inl (z0, st') | none => .inr (67, zs)) := fun n => by
  induction n with
  | zero =>
    intro m i st hm hi
    have hi : i = ws.length := by omega
    subst hi
    rw [s_end ws B hB, List.drop_length]; rfl
  | succ n ih =>
    intro m i st hm hi
    by_cases hz : m = 0
    · have hi : i = ws.length := by omega
      subst hi
      rw [s_end ws B hB, List.drop_length]; rfl
    · have hlt : i < ws.length := by omega
      have hg : ws[i]? = some ws[i] := List.getElem?_eq_getElem hlt
      have e1 : (i : Int) < ((ws.length : Nat) : Int) := by omega
      obtain ⟨hne, hlen⟩ := hw ws[i] (List.getElem_mem hlt)
      have hsub : sub ws ((i + 1 : Nat) : Int) ((ws.length : Nat) : Int) = some (ws.drop (i + 1)) := by
        rw [sub_nat (by omega) (by omega), List.take_of_length_le (by simp)]
      rw [loopC_step, hB, List.drop_eq_getElem_cons hlt]
      unfold sB pw
      simp only [e1, decide_true, cond_true, idx_nat, hg, Option.bind_some]
      rw [wrapS (by omega)]
      by_cases hc : ws[i] = COLOR
      · rw [if_pos hc]
        simp only [hc, decide_true, cond_true, hsub, Option.bind_some]
        by_cases h2 : i + 1 < ws.length
        · obtain ⟨_, hlen2⟩ := hw ws[i + 1] (List.getElem_mem h2)
          obtain ⟨k, hk1, hk2⟩ := scolor_eq ws[i + 1] (ws.drop (i + 1 + 1)) (by omega)
          rw [List.drop_eq_getElem_cons h2, hk1]
          unfold pw
          simp only [Option.bind_some]
          cases hcs : colS ws[i + 1] with
          | none => simp [onSum, zs]
          | some c =>
            have := hk2 c hcs
            subst this
            by_cases hm1 : st.2.2.1.2.2.1 = -1
            · simp only [hm1, Option.isSome_some, Bool.not_true, Bool.not_false, cond_true, ne_eq, not_true_eq_false, decide_false, Option.bind_some, cond_false, onSum, if_true]
              rw [wrapS (by omega), ih (m - 2) (i + 1 + 1) _ (by omega) (by omega)]
            · simp [hm1, onSum, zs]
        · rw [List.drop_eq_nil_of_le (by omega), scolor_nil]
          simp [onSum, zs, pw]
      · rw [if_neg hc]
        have hc' : decide (ws[i] = CLR) = false := decide_eq_false hc
        simp only [hc', cond_false]
        cases hw1 : ws[i] with
        | nil => exact absurd hw1 hne
        | cons s a =>
          rw [hw1] at hlen
          rw [attr_eq st s a (by simp only [List.length_cons] at hlen; omega)]
          cases attrS st.2.2.1 (s :: a) with
          | none => simp [onSum, zs]
          | some c =>
            simp only [Option.bind_some, Bool.not_true, cond_false, onSum]
            rw [wrapS (by omega), ih (m - 1) (i + 1) _ (by omega) (by omega)]
def parse (s : Bs) : Sty × Int :=
  if 4096 < s.length then (zs, 2)
  else match sp [] [] s with
    | [] => (zs, 67)
    | w :: r => if (nm w).2.2 then match pw false ((nm w).1, (nm w).2.1, (0, 0, -1, ()), ()) r with | some st => (st, 0) | none => (zs, 67) else (zs, 67)
theorem sparse_eq (s : Bs) : style_Parse s = some (parse s) := by
  unfold style_Parse parse
  by_cases h0 : 4096 < s.length
  · have : (4096 : Int) < ((s.length : Nat) : Int) := by omega
    simp [this, h0, zs]
  · have h1 : ¬ (4096 : Int) < ((s.length : Nat) : Int) := by omega
    rw [if_neg h0]
    simp only [h1, decide_false, cond_false, fields_eq s (by omega), Option.bind_some]
    have hw := sp_words s [] [] 4096 (fun x h => by cases h) (by simp; omega)
    have hn : (sp [] [] s).length ≤ 4096 := by have := sp_len s [] []; simp at this; omega
    revert hw hn
    generalize sp [] [] s = ws
    intro hw hn
    cases ws with
    | nil => simp [zs]
    | cons w r =>
      obtain ⟨hne, hlen⟩ := hw w List.mem_cons_self
      have h2 : ¬ (((w :: r).length : Nat) : Int) = 0 := by simp only [List.length_cons]; omega
      have h3 : idx (w :: r) 0 = some w := rfl
      have hl := fun z0 st => s_loop (w :: r) hw hn (sB (w :: r)) (fun _ => rfl) z0 r.length r.length 1 st (Nat.le_refl _) (by simp only [List.length_cons]; omega)
      have hl : ∀ z0 st, loopC (sB (w :: r)) ((1 : Int), z0, st) = some (match pw false st r with | some st' => .inl (z0, st') | none => .inr (67, zs)) := fun z0 st => hl z0 st
      simp only [h2, decide_false, cond_false, h3, Option.bind_some]
      have hcut : strings_Cut w [58] = some (match p58 w with | none => (w, [], false) | some i => (w.take i, w.drop (i + 1), true)) := by
        unfold strings_Cut
        rw [if_pos (by omega), cut58]
        all_goals (cases p58 w <;> rfl)
      rw [hcut, plain_eq]
      unfold nm
      have fin : ∀ (a b : Bs), (loopC (sB (w :: r)) ((1 : Int), (([], [], (0, 0, 0, ()), ()) : Sty), ((a, b, (0, 0, -1, ()), ()) : Sty))).bind (fun r18 => onSum r18 (fun a19 => some (a19.2, (0 : Int))) (fun b20 => some (b20.2, b20.1))) = some (match pw false (a, b, (0, 0, -1, ()), ()) r with | some st => (st, 0) | none => (zs, 67)) := fun a b => by
        rw [hl]
        cases pw false (a, b, (0, 0, -1, ()), ()) r <;> rfl
      cases hp : p58 w with
      | none =>
        simp only [Option.bind_some, named_eq w (by omega)]
        cases hk : okName w with
        | false => rfl
        | true => exact fin w []
      | some i =>
        simp only [Option.bind_some, named_eq (w.take i) (by simp; omega), named_eq (w.drop (i + 1)) (by simp; omega)]
        cases hk : okName (w.take i) with
        | false => rfl
        | true =>
          cases hk2 : okName (w.drop (i + 1)) with
          | false => rfl
          | true => exact fin (w.take i) (w.drop (i + 1))
end Go.Fn
/- Chapter 6, plainly: a text read, by the second way. -/
namespace Go.Fn
open Go Go.Lf

noncomputable def rB (r1 : List Bs) (z5 : Int × Bool × Sty × Sty) : Option ((Int × Bool × Sty × Sty) ⊕ (Bool × Sty × Sty)) :=
     (bif (decide (z5.1 < (((List.length r1) : Nat) : Int))) then some (z5.2.1, (z5.2.2.1, z5.2.2.2))
       else some (false, (z5.2.2.1, z5.2.2.2))).bind fun r6 =>
     bif r6.1 then (((Go.Lf.idx r1 z5.1)).bind fun r7 =>
       bif (decide ((r7 : List (UInt8)) = CLR)) then (bif (decide ((r6.2.1.2.2.1.2.2.1 : Int) = (-(1 : Int)))) then some ((decide ((Go.IntKind.wrap .i64 (z5.1 + (1 : Int))) < (((List.length r1) : Nat) : Int))), (r6.2.1, r6.2.2))
         else some (false, (r6.2.1, r6.2.2))).bind fun r8 =>
       (bif r8.1 then ((Go.Lf.idx r1 (Go.IntKind.wrap .i64 (z5.1 + (1 : Int))))).bind fun r9 =>
         ((Go.Fn.folioref06_color r9)).bind fun r10 =>
         some (r10.2, (r10.1, (r8.2.1, r8.2.2)))
         else some (r8.1, ((0 : Int), (r8.2.1, r8.2.2)))).bind fun r11 =>
       some (r11.1, ((Go.IntKind.wrap .i64 (z5.1 + (1 : Int))), ((r11.2.2.1.1, (r11.2.2.1.2.1, ((r11.2.2.1.2.2.1.1, (r11.2.2.1.2.2.1.2.1, (r11.2.1, r11.2.2.1.2.2.1.2.2.2))), r11.2.2.1.2.2.2))), r11.2.2.2)))
       else (((Go.Lf.idx r1 z5.1)).bind fun r12 =>
         ((Go.Lf.idx r12 (0 : Int))).bind fun r13 =>
         bif (!(decide (((((UInt8.toNat r13) : Nat) : Int) : Int) = (43 : Int)))) then ((Go.Lf.idx r1 z5.1)).bind fun r14 =>
         ((Go.Lf.idx r14 (0 : Int))).bind fun r15 =>
         some ((decide (((((UInt8.toNat r15) : Nat) : Int) : Int) = (45 : Int))), (r6.2.1, r6.2.2))
         else some (true, (r6.2.1, r6.2.2))).bind fun r16 =>
       bif r16.1 then ((Go.Lf.idx r1 z5.1)).bind fun r17 =>
       ((Go.Lf.sub r17 (1 : Int) (((List.length r17) : Nat) : Int))).bind fun r18 =>
       ((Go.Fn.folioref06_bit r18)).bind fun r19 =>
       (bif (decide ((r19 : Int) ≠ (0 : Int))) then some ((decide (((Go.Lf.bits .and .i64 (Go.Lf.bits .or .i64 r16.2.1.2.2.1.1 r16.2.1.2.2.1.2.1) r19) : Int) = (0 : Int))), (r16.2.1, r16.2.2))
         else some (false, (r16.2.1, r16.2.2))).bind fun r20 =>
       ((Go.Lf.idx r1 z5.1)).bind fun r21 =>
       ((Go.Lf.idx r21 (0 : Int))).bind fun r22 =>
       bif (decide (((((UInt8.toNat r22) : Nat) : Int) : Int) = (43 : Int))) then some (r20.1, (z5.1, ((r20.2.1.1, (r20.2.1.2.1, (((Go.Lf.bits .or .i64 r20.2.1.2.2.1.1 r19), r20.2.1.2.2.1.2), r20.2.1.2.2.2))), r20.2.2)))
       else some (r20.1, (z5.1, ((r20.2.1.1, (r20.2.1.2.1, ((r20.2.1.2.2.1.1, ((Go.Lf.bits .or .i64 r20.2.1.2.2.1.2.1 r19), r20.2.1.2.2.1.2.2)), r20.2.1.2.2.2))), r20.2.2)))
       else some (false, (z5.1, (r16.2.1, r16.2.2)))).bind fun r23 =>
     some (.inl ((Go.IntKind.wrap .i64 (r23.2.1 + (1 : Int))), (r23.1, (r23.2.2.1, r23.2.2.2))))
     else some (.inr (z5.2.1, (r6.2.2, r6.2.1)))
/-- an attribute's word, by the second way -/
theorem attrS_bit (on off : Int) (col : Int) (s : UInt8) (a : Bs) : attrS (on, off, col, ()) (s :: a) = match at7 0 W7 a with
    | none => none
    | some i => if Go.Lf.bits .and .i64 (Go.Lf.bits .or .i64 on off) (2 ^ i : Int) = 0 then
        (if s.toNat = 43 then some (Go.Lf.bits .or .i64 on (2 ^ i : Int), off, col, ()) else if s.toNat = 45 then some (on, Go.Lf.bits .or .i64 off (2 ^ i : Int), col, ()) else none) else none := by
  unfold attrS
  dsimp only
  cases h : at7 0 W7 a with
  | none => rfl
  | some i =>
    dsimp only
    have hi : i < 7 := (at7_lt W7 0 a i h).2
    have := and_pow (BitVec.ofInt 64 on ||| BitVec.ofInt 64 off) i hi
    rw [bits_or on off]
    cases hb : (BitVec.ofInt 64 on ||| BitVec.ofInt 64 off).getLsbD i with
    | true =>
      have h2 := mt this.1 (by rw [hb]; simp)
      simp only [h2, if_true, if_false]
    | false =>
      have h2 := this.2 hb
      simp only [h2, Bool.false_eq_true, if_true, if_false]
theorem pow7 : ∀ i : Nat, i < 7 → (2 ^ i : Int) ≠ 0 := lt7 (by decide) (by decide) (by decide) (by decide) (by decide) (by decide) (by decide)
section
variable (ws : List Bs) (B : Int × Bool × Sty × Sty → Option ((Int × Bool × Sty × Sty) ⊕ (Bool × Sty × Sty))) (hB : ∀ z, B z = rB ws z)
include hB
theorem r_end (ok : Bool) (st z0 : Sty) : loopC B (((ws.length : Nat) : Int), ok, st, z0) = some (ok, z0, st) := by
  rw [loopC_step, hB]
  simp [rB]
theorem r_bad (i : Int) (st z0 : Sty) : loopC B (i, false, st, z0) = some (false, z0, st) := by
  rw [loopC_step, hB]
  unfold rB
  by_cases h : i < ((ws.length : Nat) : Int) <;> simp [h]
theorem r_loop (hw : ∀ x ∈ ws, x ≠ [] ∧ x.length ≤ 4096) (hn : ws.length ≤ 4096) (z0 : Sty) : ∀ (n m i : Nat) (st : Sty), m ≤ n → i + m = ws.length →
    ∃ r, loopC B ((i : Int), true, st, z0) = some r ∧ (match pw false st (ws.drop i) with | some st' => r = (true, z0, st') | none => r.1 = false) := fun n => by
  induction n with
  | zero =>
    intro m i st hm hi
    have hi : i = ws.length := by omega
    subst hi
    rw [r_end ws B hB, List.drop_length]
    exact ⟨_, rfl, rfl⟩
  | succ n ih =>
    intro m i st hm hi
    by_cases hz : m = 0
    · have hi : i = ws.length := by omega
      subst hi
      rw [r_end ws B hB, List.drop_length]
      exact ⟨_, rfl, rfl⟩
    · have hlt : i < ws.length := by omega
      have hg : ws[i]? = some ws[i] := List.getElem?_eq_getElem hlt
      have e1 : (i : Int) < ((ws.length : Nat) : Int) := by omega
      obtain ⟨hne, hlen⟩ := hw ws[i] (List.getElem_mem hlt)
      rw [loopC_step, hB, List.drop_eq_getElem_cons hlt]
      unfold rB pw
      simp only [e1, decide_true, cond_true, idx_nat, hg, Option.bind_some]
      rw [wrapS (by omega)]
      by_cases hc : ws[i] = COLOR
      · rw [if_pos hc]
        simp only [hc, decide_true, cond_true, Option.bind_some]
        by_cases h2 : i + 1 < ws.length
        · have e2 : (((i + 1 : Nat) : Int) < ((ws.length : Nat) : Int)) := by omega
          rw [List.drop_eq_getElem_cons h2]
          unfold pw
          by_cases hm1 : st.2.2.1.2.2.1 = -1
          · simp only [hm1, decide_true, cond_true, Option.bind_some, e2, idx_nat, List.getElem?_eq_getElem h2, rcolor_eq]
            cases hcs : colS ws[i + 1] with
            | none =>
              simp only []
              rw [r_bad ws B hB]
              exact ⟨_, rfl, rfl⟩
            | some c =>
              simp only [if_true]
              rw [wrapS (by omega)]
              exact ih (m - 2) (i + 1 + 1) _ (by omega) (by omega)
          · simp only [hm1, decide_false, cond_false, Option.bind_some]
            rw [r_bad ws B hB]
            cases hcs : colS ws[i + 1] with
            | none => exact ⟨_, rfl, rfl⟩
            | some c => exact ⟨_, rfl, rfl⟩
        · have e2 : ¬ (((i + 1 : Nat) : Int) < ((ws.length : Nat) : Int)) := by omega
          rw [List.drop_eq_nil_of_le (by omega)]
          unfold pw
          by_cases hm1 : st.2.2.1.2.2.1 = -1
          · simp only [hm1, decide_true, decide_false, cond_true, cond_false, Option.bind_some, e2]
            rw [r_bad ws B hB]
            exact ⟨_, rfl, rfl⟩
          · simp only [hm1, decide_false, cond_false, Option.bind_some]
            rw [r_bad ws B hB]
            exact ⟨_, rfl, rfl⟩
      · rw [if_neg hc]
        have hc' : decide (ws[i] = CLR) = false := decide_eq_false hc
        simp only [hc', cond_false]
        cases hw1 : ws[i] with
        | nil => exact absurd hw1 hne
        | cons s a =>
          have h0 : idx (s :: a) 0 = some s := rfl
          have hsub : sub (s :: a) 1 (((s :: a).length : Nat) : Int) = some a := by
            have := sub_nat (l := s :: a) (a := 1) (b := (s :: a).length) (by simp) (Nat.le_refl _)
            simpa using this
          obtain ⟨nm, bs, ⟨on, off, col, ⟨⟩⟩, ⟨⟩⟩ := st
          rw [attrS_bit]
          simp only [h0, hsub, Option.bind_some, rbit_eq]
          have bad : ∀ (x : Option ((Int × Bool × Sty × Sty) ⊕ (Bool × Sty × Sty))) (j : Int) (s' : Sty), x = some (.inl (j, false, s', z0)) → ∃ r, (x.bind fun | .inl z' => loopC B z' | .inr k => some k) = some r ∧ r.1 = false := fun x j s' hx => by
            subst hx
            exact ⟨_, r_bad ws B hB j s' z0, rfl⟩
          by_cases h43 : s.toNat = 43
          · have g43 : (((s.toNat : Nat) : Int) = 43) = True := eq_true (by omega)
            have p43 : (s.toNat = 43) = True := eq_true h43
            simp only [g43, decide_true, Bool.not_true, cond_false, cond_true, Option.bind_some, p43, if_true]
            cases h7 : at7 0 W7 a with
            | none => exact bad _ _ _ rfl
            | some k =>
              have hp := pow7 k (at7_lt W7 0 a k h7).2
              by_cases hb : Go.Lf.bits .and .i64 (Go.Lf.bits .or .i64 on off) (2 ^ k : Int) = 0
              · simp only [hp, hb, ne_eq, not_false_eq_true, decide_true, cond_true, Option.bind_some, if_true]
                rw [wrapS (by omega)]
                exact ih (m - 1) (i + 1) _ (by omega) (by omega)
              · simp only [hp, hb, ne_eq, not_false_eq_true, decide_true, decide_false, cond_true, Option.bind_some, if_false]
                exact bad _ _ _ rfl
          · have g43 : ¬ ((s.toNat : Nat) : Int) = 43 := by omega
            by_cases h45 : s.toNat = 45
            · have g45 : (((s.toNat : Nat) : Int) = 45) = True := eq_true (by omega)
              have p45 : (s.toNat = 45) = True := eq_true h45
              simp only [g43, g45, decide_true, decide_false, Bool.not_false, cond_false, cond_true, Option.bind_some, h43, p45, if_true, if_false]
              cases h7 : at7 0 W7 a with
              | none => exact bad _ _ _ rfl
              | some k =>
                have hp := pow7 k (at7_lt W7 0 a k h7).2
                by_cases hb : Go.Lf.bits .and .i64 (Go.Lf.bits .or .i64 on off) (2 ^ k : Int) = 0
                · simp only [hp, hb, ne_eq, not_false_eq_true, decide_true, cond_true, Option.bind_some, if_true]
                  rw [wrapS (by omega)]
                  exact ih (m - 1) (i + 1) _ (by omega) (by omega)
                · simp only [hp, hb, ne_eq, not_false_eq_true, decide_true, decide_false, cond_true, Option.bind_some, if_false]
                  exact bad _ _ _ rfl
            · have g45 : ¬ ((s.toNat : Nat) : Int) = 45 := by omega
              simp only [g43, g45, decide_false, Bool.not_false, cond_false, cond_true, Option.bind_some, h43, h45, if_false]
              have h2 : (match at7 0 W7 a with | none => none | some i => if Go.Lf.bits .and .i64 (Go.Lf.bits .or .i64 on off) (2 ^ i : Int) = 0 then (none : Option Chg) else none) = none := by
                cases at7 0 W7 a with
                | none => rfl
                | some k => simp
              rw [h2]
              exact bad _ _ _ rfl
end
theorem rparse_eq (s : Bs) : folioref06_Parse s = some (parse s) := by
  unfold folioref06_Parse parse
  by_cases h0 : 4096 < s.length
  · have : (4096 : Int) < ((s.length : Nat) : Int) := by omega
    simp [this, h0, zs]
  · have h1 : ¬ (4096 : Int) < ((s.length : Nat) : Int) := by omega
    rw [if_neg h0]
    simp only [h1, decide_false, cond_false, rwords_loop s (by omega), Option.bind_some]
    have hw := sp_words s [] [] 4096 (fun x h => by cases h) (by simp; omega)
    have hn : (sp [] [] s).length ≤ 4096 := by have := sp_len s [] []; simp at this; omega
    revert hw hn
    generalize sp [] [] s = ws
    intro hw hn
    cases ws with
    | nil => simp [zs]
    | cons w r =>
      obtain ⟨hne, hlen⟩ := hw w List.mem_cons_self
      have h2 : ¬ (((w :: r).length : Nat) : Int) = 0 := by simp only [List.length_cons]; omega
      have h3 : idx (w :: r) 0 = some w := rfl
      simp only [h2, decide_false, cond_false, h3, Option.bind_some, none_eq, rnames_eq w hlen]
      have fin : ∀ (a b : Bs) (k : Bool), (loopC (rB (w :: r)) ((1 : Int), k, ((a, b, (0, 0, -1, ()), ()) : Sty), (([], [], (0, 0, 0, ()), ()) : Sty))).bind (fun r24 => bif (!r24.1) then some ((([] : List (UInt8)), (([] : List (UInt8)), (((0 : Int), ((0 : Int), ((0 : Int), ()))), ()))), (67 : Int))
         else some (r24.2.2, (0 : Int))) = some ((if k then (match pw false (a, b, (0, 0, -1, ()), ()) r with | some st => (st, 0) | none => (zs, 67)) else (zs, 67)) : Sty × Int) := fun a b k => by
        cases k with
        | false => rw [r_bad (w :: r) (rB (w :: r)) (fun _ => rfl)]; rfl
        | true =>
          obtain ⟨x, hx1, hx2⟩ := r_loop (w :: r) (rB (w :: r)) (fun _ => rfl) hw hn ([], [], (0, 0, 0, ()), ()) r.length r.length 1 (a, b, (0, 0, -1, ()), ()) (Nat.le_refl _) (by simp only [List.length_cons]; omega)
          have hx1 : loopC (rB (w :: r)) ((1 : Int), true, ((a, b, (0, 0, -1, ()), ()) : Sty), (([], [], (0, 0, 0, ()), ()) : Sty)) = some x := hx1
          rw [hx1]
          have hx2 : (match pw false (a, b, (0, 0, -1, ()), ()) r with | some st' => x = (true, ([], [], (0, 0, 0, ()), ()), st') | none => x.1 = false) := hx2
          cases hp : pw false (a, b, (0, 0, -1, ()), ()) r with
          | none =>
            rw [hp] at hx2
            have hx2 : x.1 = false := hx2
            simp [hx2, zs]
          | some st' =>
            rw [hp] at hx2
            have hx2 : x = _ := hx2
            rw [hx2]; rfl
      exact fin (nm w).1 (nm w).2.1 (nm w).2.2
end Go.Fn
/- Chapter 6, plainly: a style written. -/
namespace Go.Fn
open Go Go.Lf

theorem andNot_zero {n : Int} (h0 : 0 ≤ n) (h1 : n ≤ 9223372036854775807) : Go.Lf.bits .andNot .i64 n 127 = 0 ↔ n ≤ 127 := by
  rw [bits_andNot, num_zero, show BitVec.ofInt 64 127 = 127#64 by decide]
  have hx : ((BitVec.ofInt 64 n).toNat : Int) = n := by simp [BitVec.toNat_ofInt]; omega
  have hb : ∀ i, (127#64).getLsbD i = decide (i < 7) := fun i => by
    rw [← BitVec.testBit_toNat, show (127#64).toNat = 2 ^ 7 - 1 by decide, Nat.testBit_two_pow_sub_one]
  revert hx
  generalize BitVec.ofInt 64 n = X
  intro hx
  constructor
  · intro h
    have : X.toNat < 2 ^ 7 := Nat.lt_pow_two_of_testBit _ fun i hi => by
      rw [BitVec.testBit_toNat]
      by_cases h64 : i < 64
      · have h2 := congrArg (fun x : BitVec 64 => x.getLsbD i) h
        have h3 : ¬ i < 7 := by omega
        simp only [BitVec.getLsbD_and, BitVec.getLsbD_not, hb, h3, h64, decide_true, decide_false, Bool.not_false, Bool.and_true, BitVec.getLsbD_zero, Bool.true_and] at h2
        exact h2
      · exact BitVec.getLsbD_of_ge _ _ (by omega)
    omega
  · intro h
    apply BitVec.eq_of_getLsbD_eq
    intro i hi
    rw [BitVec.getLsbD_and, BitVec.getLsbD_not, hb]
    by_cases h7 : i < 7
    · simp [h7]
    · have : X.getLsbD i = false := by
        rw [← BitVec.testBit_toNat]
        exact Nat.testBit_lt_two_pow (Nat.lt_of_lt_of_le (show X.toNat < 2 ^ 7 by omega) (Nat.pow_le_pow_right (by omega) (by omega)))
      simp [this]
def chgS (c : Chg) : Int :=
  if 0 ≤ c.1 ∧ c.1 ≤ 127 ∧ 0 ≤ c.2.1 ∧ c.2.1 ≤ 127 ∧ Go.Lf.bits .and .i64 c.1 c.2.1 = 0 then (if -1 ≤ c.2.2.1 ∧ c.2.2.1 ≤ 15 then 0 else 63) else 62
theorem col_eq (n : Int) : (bif (!(decide (n < (-(1 : Int))))) then some (decide ((15 : Int) < n)) else some true : Option Bool).bind (fun r2 => bif r2 then some (63 : Int) else some (0 : Int)) = some (if -1 ≤ n ∧ n ≤ 15 then 0 else 63) := by
  by_cases h1 : n < -1
  · have : ¬ -1 ≤ n := by omega
    simp [h1, this]
  · have g1 : -1 ≤ n := by omega
    by_cases h2 : (15 : Int) < n
    · have : ¬ n ≤ 15 := by omega
      simp [h1, h2, this]
    · have g2 : n ≤ 15 := by omega
      simp [h1, h2, g1, g2]
theorem own_eq (c : Chg) : folioref06_own c = some (chgS c) := by
  obtain ⟨on, off, col, ⟨⟩⟩ := c
  unfold folioref06_own chgS
  dsimp only
  have hc := col_eq col
  by_cases h1 : on < 0
  · have : ¬ 0 ≤ on := by omega
    simp [h1, this]
  · have g1 : 0 ≤ on := by omega
    by_cases h2 : off < 0
    · have : ¬ 0 ≤ off := by omega
      simp [h1, h2, this]
    · have g2 : 0 ≤ off := by omega
      by_cases h3 : (127 : Int) < on
      · have : ¬ on ≤ 127 := by omega
        simp [h1, h2, h3, this]
      · have g3 : on ≤ 127 := by omega
        by_cases h4 : (127 : Int) < off
        · have : ¬ off ≤ 127 := by omega
          simp [h1, h2, h3, h4, this]
        · have g4 : off ≤ 127 := by omega
          by_cases h5 : Go.Lf.bits .and .i64 on off = 0
          · simp only [h1, h2, h3, h4, h5, g1, g2, g3, g4, decide_false, Bool.not_false, cond_true, ne_eq, not_true_eq_false, Option.bind_some, cond_false, and_self, if_true]
            exact hc
          · simp [h1, h2, h3, h4, h5]
theorem change_eq (c : Chg) (hf : Fits c.1 ∧ Fits c.2.1) : style_change c = some (chgS c) := by
  obtain ⟨on, off, col, ⟨⟩⟩ := c
  unfold style_change chgS
  dsimp only
  have hc := col_eq col
  have e2 : IntKind.i64.max = 9223372036854775807 := by decide
  have h10 := hf.1.2
  have h20 := hf.2.2
  dsimp only at h10 h20
  rw [e2] at h10 h20
  by_cases h1 : on < 0
  · have g : ¬ 0 ≤ on := by omega
    by_cases a1 : Go.Lf.bits .andNot .i64 on 127 = 0 <;> by_cases a2 : Go.Lf.bits .andNot .i64 off 127 = 0 <;> simp [a1, a2, h1, g]
  · have g1 : 0 ≤ on := by omega
    have k1 := andNot_zero g1 h10
    by_cases h2 : off < 0
    · have g : ¬ 0 ≤ off := by omega
      by_cases a1 : Go.Lf.bits .andNot .i64 on 127 = 0 <;> by_cases a2 : Go.Lf.bits .andNot .i64 off 127 = 0 <;> simp [a1, a2, h1, h2, g]
    · have g2 : 0 ≤ off := by omega
      have k2 := andNot_zero g2 h20
      by_cases h3 : on ≤ 127
      · by_cases h4 : off ≤ 127
        · have a1 := k1.2 h3
          have a2 := k2.2 h4
          by_cases h5 : Go.Lf.bits .and .i64 on off = 0
          · simp only [h1, h2, h3, h4, h5, a1, a2, g1, g2, decide_false, Bool.not_false, cond_true, ne_eq, not_true_eq_false, Option.bind_some, cond_false, and_self, if_true]
            exact hc
          · simp [h1, h2, h5, a1, a2]
        · have a2 := mt k2.1 h4
          by_cases a1 : Go.Lf.bits .andNot .i64 on 127 = 0 <;> simp [a1, a2, h4]
      · have a1 := mt k1.1 h3
        simp [a1, h3]

/-- the words of the bits that are set -/
def bitsW (bit : Nat → Bool) (sg : Bs) : Nat → List Bs → Bs
  | _, [] => []
  | i, x :: r => (if bit i then sg ++ x else []) ++ bitsW bit sg (i + 1) r
theorem bitsW_cons (bit : Nat → Bool) (sg : Bs) (i : Nat) (x : Bs) (r : List Bs) : bitsW bit sg i (x :: r) = (if bit i then sg ++ x else []) ++ bitsW bit sg (i + 1) r := rfl
theorem bitsW_len (bit : Nat → Bool) (sg : Bs) : ∀ (l : List Bs) (i : Nat), (∀ x ∈ l, x.length ≤ 7) → (bitsW bit sg i l).length ≤ l.length * (sg.length + 7)
  | [], i, _ => by simp [bitsW]
  | x :: r, i, h => by
    have ih := bitsW_len bit sg r (i + 1) fun y hy => h y (List.mem_cons_of_mem _ hy)
    have h1 := h x List.mem_cons_self
    unfold bitsW
    rw [List.length_append, List.length_cons, Nat.succ_mul]
    split
    · rw [List.length_append]; omega
    · simp only [List.length_nil]; omega
theorem W7_len : ∀ x ∈ W7, x.length ≤ 7 := by decide
theorem word_loop {S K : Type} (mk : Int → Bs → S) (fin : Bs → K) (B : S → Option (S ⊕ K)) (bit : Nat → Bool) (sg : Bs)
    (h1 : ∀ (i : Nat) (x b : Bs), W7[i]? = some x → b.length ≤ 4096 → B (mk (i : Int) b) = some (.inl (mk ((i + 1 : Nat) : Int) (if bit i then b ++ (sg ++ x) else b))))
    (h2 : ∀ b, B (mk 7 b) = some (.inr (fin b))) : ∀ (m i : Nat) (b : Bs), i + m = 7 → b.length + m * (sg.length + 7) ≤ 4096 → loopC B (mk (i : Int) b) = some (fin (b ++ bitsW bit sg i (W7.drop i)))
  | 0, i, b, hi, hb => by
    have : i = 7 := by omega
    subst this
    rw [loopC_step, show ((7 : Nat) : Int) = 7 from rfl, h2, show W7.drop 7 = [] from rfl]
    simp [bitsW]
  | m + 1, i, b, hi, hb => by
    have hlt : i < W7.length := by show i < 7; omega
    have hx := W7_len W7[i] (List.getElem_mem hlt)
    rw [Nat.succ_mul] at hb
    rw [loopC_step, h1 i W7[i] b (List.getElem?_eq_getElem hlt) (by omega), List.drop_eq_getElem_cons hlt]
    simp only [Option.bind_some]
    rw [word_loop mk fin B bit sg h1 h2 m (i + 1) _ (by omega) (by
      split
      · simp only [List.length_append]; omega
      · omega)]
    congr 2
    rw [bitsW_cons]
    split <;> simp [List.append_assoc]
def bitN (n : Int) (i : Nat) : Bool := (BitVec.ofInt 64 n).getLsbD i
theorem u64_at : ∀ i : Nat, i < 7 → IntKind.wrap .u64 (i : Int) = (i : Int) := lt7 (by decide) (by decide) (by decide) (by decide) (by decide) (by decide) (by decide)
theorem bitN_at {n : Int} (hn : Fits n) {i : Nat} (hi : i < 7) : decide (Go.Lf.bits .and .i64 (Int.fdiv n ((2 : Int) ^ (Min.min (Int.toNat (i : Int)) (64 : Nat)))) 1 = 1) = bitN n i := by
  have h := bit_at (BitVec.ofInt 64 n) i hi
  rw [num_of hn] at h
  unfold bitN
  cases hb : (BitVec.ofInt 64 n).getLsbD i with
  | true => exact decide_eq_true (h.2 hb)
  | false => exact decide_eq_false (mt h.1 (by rw [hb]; simp))
theorem nn_at {i : Nat} (x : Int) : nn (i : Int) x = some x := if_neg (by omega)
theorem rbits_eq (sg : Bs) (n : Int) (hn : Fits n) (hs : sg.length ≤ 1) : folioref06_bits sg n = some (bitsW (bitN n) (32 :: sg) 0 W7) := by
  unfold folioref06_bits
  rw [rwords_eq]
  simp only [Option.bind_some]
  have h := word_loop (fun i b => (i, b)) (fun b => b) (fun z2 =>
     bif (decide (z2.1 < (((List.length W7) : Nat) : Int))) then (((Go.Lf.nn (Go.IntKind.wrap .u64 z2.1) (Int.fdiv n ((2 : Int) ^ (Min.min (Int.toNat (Go.IntKind.wrap .u64 z2.1)) (64 : Nat)))))).bind fun r3 =>
       bif (decide (((Go.Lf.bits .and .i64 r3 (1 : Int)) : Int) = (1 : Int))) then ((Go.Lf.cat z2.2 ((32 : UInt8) :: ([] : List (UInt8))))).bind fun r4 =>
       ((Go.Lf.cat r4 sg)).bind fun r5 =>
       ((Go.Lf.idx W7 z2.1)).bind fun r6 =>
       ((Go.Lf.cat r5 r6)).bind fun r7 =>
       some r7
       else some z2.2).bind fun r8 =>
     some (.inl ((Go.IntKind.wrap .i64 (z2.1 + (1 : Int))), r8))
     else some (.inr z2.2)) (bitN n) (32 :: sg) (fun i x b hx hb => by
      have hlt : i < 7 := (List.getElem?_eq_some_iff.1 hx).1
      have hxl := W7_len x (List.mem_of_getElem? hx)
      have e1 : (i : Int) < ((W7.length : Nat) : Int) := by show (i : Int) < 7; omega
      simp only [e1, decide_true, cond_true, u64_at i hlt, nn_at, Option.bind_some, bitN_at hn hlt, idx_nat, hx]
      rw [wrapS (by omega)]
      cases bitN n i with
      | false => rfl
      | true =>
        rw [cat_of (by simp; omega)]
        simp only [cond_true, Option.bind_some]
        rw [cat_of (by simp; omega)]
        simp only [Option.bind_some]
        rw [cat_of (by simp; omega)]
        simp) (fun b => by simp; rfl) 7 0 [] rfl (by simp; omega)
  have h : loopC _ ((0 : Int), ([] : Bs)) = _ := h
  rw [h]
  simp
theorem okName_len {s : Bs} (h : okName s = true) : s.length ≤ 12 := by
  unfold okName at h
  simp at h
  exact h.1.2
theorem itoa_len : ∀ n : Nat, n < 16 → (Lib.itoa (n : Int)).length ≤ 2 := by
  have h : ((List.range 16).all fun n => Nat.ble (Lib.itoa (n : Int)).length 2) = true := by kernel_rfl
  intro n hn
  exact Nat.le_of_ble_eq_true (List.all_eq_true.1 h n (List.mem_range.2 hn))
abbrev SPCOLOR : Bs := [32, 99, 111, 108, 111, 114, 32]
def writeS (st : Sty) : Bs × Int :=
  if okName st.1 = false then ([], 60)
  else if chgS st.2.2.1 ≠ 0 then ([], chgS st.2.2.1)
  else if st.2.1 ≠ [] ∧ okName st.2.1 = false then ([], 64)
  else ((st.1 ++ (if st.2.1 = [] then [] else 58 :: st.2.1)) ++ bitsW (bitN st.2.2.1.1) [32, 43] 0 W7 ++ bitsW (bitN st.2.2.1.2.1) [32, 45] 0 W7 ++ (if st.2.2.1.2.2.1 = -1 then [] else SPCOLOR ++ Lib.itoa st.2.2.1.2.2.1), 0)
def lim : Nat := 140737488351232
theorem chgS_zero {c : Chg} (h : chgS c = 0) : -1 ≤ c.2.2.1 ∧ c.2.2.1 ≤ 15 := by
  unfold chgS at h
  split at h
  · split at h
    · assumption
    · omega
  · omega
theorem itoaC {n : Int} (h0 : -1 ≤ n) (h1 : n ≤ 15) (h2 : n ≠ -1) : strconv_Itoa n = some (Lib.itoa n) ∧ (Lib.itoa n).length ≤ 2 := by
  constructor
  · unfold strconv_Itoa; rw [if_pos (by omega)]
  · have := itoa_len n.toNat (by omega)
    rwa [Int.toNat_of_nonneg (by omega)] at this
end Go.Fn
/- Chapter 6, plainly: sheets of styles. -/
namespace Go.Fn
open Go Go.Lf

/-- a style's place, by its name -/
def fnd : List Sty → Bs → Option Nat
  | [], _ => none
  | s :: r, n => if s.1 = n then some 0 else (fnd r n).map (· + 1)
theorem fnd_lt : ∀ (l : List Sty) (n : Bs) (i : Nat), fnd l n = some i → i < l.length
  | [], n, i, h => by cases h
  | s :: r, n, i, h => by
    unfold fnd at h
    split at h
    · injection h with h; subst h; simp
    · cases hr : fnd r n with
      | none => rw [hr] at h; cases h
      | some j =>
        rw [hr] at h
        have := fnd_lt r n j hr
        have h : j + 1 = i := by injection h
        simp only [List.length_cons]; omega
theorem find_loop (l : List Sty) (n : Bs) (hl : l.length < 9223372036854775807) (B : Int → Option (Int ⊕ (Unit ⊕ (Int × Bool)))) (hB : ∀ z1, B z1 = (bif (decide (z1 < (((List.length l) : Nat) : Int))) then ((Go.Lf.idx l z1)).bind fun r2 =>
     bif (decide ((r2.1 : List (UInt8)) = n)) then some (.inr (.inr (z1, true)))
     else some (.inl (Go.IntKind.wrap .i64 (z1 + (1 : Int))))
     else some (.inr (.inl ())))) : (loopC B 0).bind (fun r3 => onSum r3 (fun _ => some ((0 : Int), false)) (fun b5 => some (b5.1, b5.2))) = some (match fnd l n with | some i => ((i : Int), true) | none => (0, false)) := by
  have h := range_loopI0 (l := l) (κ := Unit ⊕ (Int × Bool)) (B := B) (fun i s => if s.1 = n then some (.inr (.inr ((i : Int), true))) else some (.inl ())) (.inl ()) (fun i x hx => by
      have hlt : i < l.length := (List.getElem?_eq_some_iff.1 hx).1
      have e1 : (i : Int) < ((l.length : Nat) : Int) := by omega
      rw [hB, idx_nat, hx, wrapS (by omega)]
      by_cases hw : x.1 = n <;> simp [e1, hw, onSum]) (by rw [hB]; simp) l.length 0 (by omega)
  rw [List.drop_zero] at h
  have key : ∀ (l : List Sty) (k : Nat), foldI (fun i s (_ : Unit) => if s.1 = n then some (.inr (.inr ((i : Int), true))) else some (.inl ())) (fun _ => (.inl () : Unit ⊕ (Int × Bool))) k l () = some (match fnd l n with | some i => .inr (((k + i : Nat) : Int), true) | none => .inl ()) := fun l => by
    induction l with
    | nil => intro k; rfl
    | cons x r ih =>
      intro k
      unfold foldI fnd
      by_cases hx : x.1 = n
      · simp [hx, onSum]
      · simp only [hx, if_false, Option.bind_some, onSum]
        rw [ih (k + 1)]
        cases fnd r n with
        | none => rfl
        | some i => simp only [Option.map_some, show k + 1 + i = k + (i + 1) by omega]
  rw [key] at h
  have h : loopC B (0 : Int) = _ := h
  rw [h]
  cases fnd l n with
  | none => rfl
  | some i => simp [onSum]
theorem sfind_eq (l : List Sty) (n : Bs) (hl : l.length < 9223372036854775807) : style_Find l n = some (match fnd l n with | some i => ((i : Int), true) | none => (0, false)) := find_loop l n hl _ fun _ => rfl
theorem rfind_eq (l : List Sty) (n : Bs) (hl : l.length < 9223372036854775807) : folioref06_Find l n = some (match fnd l n with | some i => ((i : Int), true) | none => (0, false)) := find_loop l n hl _ fun _ => rfl

/-- a loop over places that may stop -/
theorem loop_all {K : Type} {B : Int → Option (Int ⊕ (Unit ⊕ K))} (n : Nat) (P : Nat → Prop) (Q : K → Prop) (h1 : ∀ i, i < n → (B (i : Int) = some (.inl ((i + 1 : Nat) : Int)) ∧ P i) ∨ ∃ k, B (i : Int) = some (.inr (.inr k)) ∧ Q k)
    (h2 : B (n : Int) = some (.inr (.inl ()))) : ∀ m i : Nat, i + m = n → (loopC B (i : Int) = some (.inl ()) ∧ ∀ j, i ≤ j → j < n → P j) ∨ ∃ k, loopC B (i : Int) = some (.inr k) ∧ Q k
  | 0, i, h => by
    have : i = n := by omega
    subst this
    rw [loopC_step, h2]
    exact .inl ⟨rfl, fun j _ _ => by omega⟩
  | m + 1, i, h => by
    rw [loopC_step]
    rcases h1 i (by omega) with ⟨e, hp⟩ | ⟨k, e, hq⟩
    · rw [e]
      rcases loop_all n P Q h1 h2 m (i + 1) (by omega) with ⟨e2, hp2⟩ | ⟨k, e2, hq⟩
      · refine .inl ⟨e2, fun j h3 h4 => ?_⟩
        by_cases hj : j = i
        · subst hj; exact hp
        · exact hp2 j (by omega) h4
      · exact .inr ⟨k, e2, hq⟩
    · rw [e]
      exact .inr ⟨k, rfl, hq⟩
/-- sheets whose parts are in range -/
def Fine (l : List Sty) : Prop := l.length ≤ 140737488351300 ∧ ∀ s ∈ l, s.1.length ≤ lim ∧ s.2.1.length ≤ lim ∧ Fits s.2.2.1.1 ∧ Fits s.2.2.1.2.1
theorem whole_stop (l : List Sty) (i : Nat) (hi : i < l.length) (hl : l.length < 9223372036854775807) (h : l[i].2.1 = [] ∨ fnd l l[i].2.1 = none) (self : List Sty × Int → Option Chg) : ∃ c, style_wholeB self l (i : Int) = some c := by
  unfold style_wholeB
  rw [plain_eq]
  have hg : idx l (i : Int) = some l[i] := by rw [idx_nat, List.getElem?_eq_getElem hi]
  simp only [Option.bind_some, hg, sfind_eq l _ hl, then_eq]
  rcases h with h | h
  · simp only [h]
    cases fnd l [] <;> exact ⟨_, rfl⟩
  · simp only [h]
    exact ⟨_, rfl⟩
theorem whole_go (l : List Sty) (i j : Nat) (hi : i < l.length) (hl : l.length < 9223372036854775807) (h : fnd l l[i].2.1 = some j) (hne : l[i].2.1 ≠ []) (self : List Sty × Int → Option Chg) (hs : ∃ c, self (l, (j : Int)) = some c) : ∃ c, style_wholeB self l (i : Int) = some c := by
  obtain ⟨c, hc⟩ := hs
  unfold style_wholeB
  rw [plain_eq]
  have hg : idx l (i : Int) = some l[i] := by rw [idx_nat, List.getElem?_eq_getElem hi]
  simp only [Option.bind_some, hg, sfind_eq l _ hl, then_eq, h, hne, ne_eq, not_false_eq_true, decide_true, cond_true, hc]
  exact ⟨_, rfl⟩
theorem ends_loop (l : List Sty) (hl : l.length < 9223372036854775807) (B : Int × Int × Bool → Option ((Int × Int × Bool) ⊕ Bool)) (hB : ∀ z1, B z1 = (bif (decide (z1.1 < (8 : Int))) then ((Go.Lf.idx l z1.2.1)).bind fun r2 =>
     ((Go.Fn.style_Find l r2.2.1)).bind fun r3 =>
     (((Go.Lf.idx l z1.2.1)).bind fun r4 =>
       bif (!(decide ((r4.2.1 : List (UInt8)) = ([] : List (UInt8))))) then some (!r3.2)
       else some true).bind fun r5 =>
     bif r5 then some (.inr true)
     else some (.inl ((Go.IntKind.wrap .i64 (z1.1 + (1 : Int))), (r3.1, z1.2.2)))
     else some (.inr z1.2.2))) : ∀ (m k i : Nat), k + m = 8 → i < l.length → ∃ r, loopC B ((k : Int), (i : Int), false) = some r ∧ (r = true → ∃ c, style_wholeN m (l, (i : Int)) = some c)
  | 0, k, i, hk, hi => by
    have hk8 : ¬ (k : Int) < 8 := by omega
    rw [loopC_step, hB]
    simp only [hk8, decide_false, cond_false, Option.bind_some]
    exact ⟨_, rfl, fun h => by cases h⟩
  | m + 1, k, i, hk, hi => by
    have hk8 : (k : Int) < 8 := by omega
    have hg : idx l (i : Int) = some l[i] := by rw [idx_nat, List.getElem?_eq_getElem hi]
    rw [loopC_step, hB]
    simp only [hk8, decide_true, cond_true, hg, Option.bind_some, sfind_eq l _ hl]
    by_cases hb : l[i].2.1 = []
    · simp only [hb, decide_true, Bool.not_true, cond_false, Option.bind_some, cond_true]
      exact ⟨_, rfl, fun _ => whole_stop l i hi hl (.inl hb) _⟩
    · simp only [hb, decide_false, Bool.not_false, cond_true, Option.bind_some]
      cases hf : fnd l l[i].2.1 with
      | none =>
        simp only [Bool.not_false, cond_true, Option.bind_some]
        exact ⟨_, rfl, fun _ => whole_stop l i hi hl (.inr hf) _⟩
      | some j =>
        simp only [Bool.not_true, cond_false, Option.bind_some]
        rw [wrapS (by omega)]
        obtain ⟨r, e, h⟩ := ends_loop l hl B hB m (k + 1) j (by omega) (fnd_lt l _ j hf)
        exact ⟨r, e, fun hr => whole_go l i j hi hl hf hb _ (h hr)⟩
theorem ends_eq (l : List Sty) (hl : l.length < 9223372036854775807) (i : Nat) (hi : i < l.length) : ∃ r, style_ends l (i : Int) = some r ∧ (r = true → ∃ c, style_whole l (i : Int) = some c) := by
  unfold style_ends
  obtain ⟨r, e, h⟩ := ends_loop l hl _ (fun _ => rfl) 8 0 i rfl hi
  have e : loopC _ ((0 : Int), ((i : Int), false)) = some r := e
  rw [e]
  refine ⟨r, rfl, fun hr => ?_⟩
  obtain ⟨c, hc⟩ := h hr
  exact ⟨c, sup_le (fun n => style_wholeN_mono n _) 8 _ hc⟩
theorem whole_tot (l : List Sty) (hl : l.length < 9223372036854775807) (i : Nat) (hi : i < l.length) (h : l[i].2.1 = [] ∨ fnd l l[i].2.1 = none) : ∃ c, style_whole l (i : Int) = some c := by
  obtain ⟨c, hc⟩ := whole_stop l i hi hl h (style_wholeN 0)
  exact ⟨c, sup_le (fun n => style_wholeN_mono n _) 1 _ hc⟩
/-- the check: it answers, and what passes has all its wholes -/
theorem scheck_eq (l : List Sty) (hf : Fine l) : ∃ p c, style_Check l = some (p, c) ∧ (c = 0 → ∀ i, i < l.length → ∃ r, style_whole l (i : Int) = some r) := by
  obtain ⟨hlen, hall⟩ := hf
  unfold style_Check
  by_cases h64 : (64 : Int) < ((l.length : Nat) : Int)
  · simp only [h64, decide_true, cond_true]
    exact ⟨_, _, rfl, fun h => absurd h (by decide)⟩
  · simp only [h64, decide_false, cond_false]
    have L1 := loop_all (B := fun z1 =>
     bif (decide (z1 < (((List.length l) : Nat) : Int))) then ((Go.Lf.idx l z1)).bind fun r2 =>
     ((Go.Fn.style_named r2.1)).bind fun r3 =>
     bif (!r3) then some (.inr (.inr (z1, (60 : Int))))
     else ((Go.Lf.sub l (0 : Int) z1)).bind fun r4 =>
     ((Go.Fn.style_Find r4 r2.1)).bind fun r5 =>
     bif r5.2 then some (.inr (.inr (z1, (61 : Int))))
     else ((Go.Fn.style_change r2.2.2.1)).bind fun r6 =>
     bif (decide ((r6 : Int) ≠ (0 : Int))) then some (.inr (.inr (z1, r6)))
     else some (.inl (Go.IntKind.wrap .i64 (z1 + (1 : Int))))
     else some (.inr (.inl ()))) l.length (fun _ => True) (fun k : Int × Int => k.2 ≠ 0) (fun i hi => by
      have hg : idx l (i : Int) = some l[i] := by rw [idx_nat, List.getElem?_eq_getElem hi]
      have e1 : (i : Int) < ((l.length : Nat) : Int) := by omega
      obtain ⟨a1, a2, a3, a4⟩ := hall l[i] (List.getElem_mem hi)
      unfold lim at a1 a2
      have hsub : sub l 0 (i : Int) = some (l.take i) := by
        have := sub_nat (l := l) (a := 0) (b := i) (by omega) (by omega)
        simpa using this
      simp only [e1, decide_true, cond_true, hg, Option.bind_some, named_eq l[i].1 (by omega), hsub, sfind_eq (l.take i) _ (by simp; omega), change_eq _ ⟨a3, a4⟩]
      cases okName l[i].1 with
      | false => exact .inr ⟨_, rfl, (show (60 : Int) ≠ 0 by decide)⟩
      | true =>
        simp only [Bool.not_true, cond_false]
        cases fnd (l.take i) l[i].1 with
        | some j => exact .inr ⟨_, rfl, (show (61 : Int) ≠ 0 by decide)⟩
        | none =>
          by_cases hc : chgS l[i].2.2.1 = 0
          · simp only [hc, ne_eq, not_true_eq_false, decide_false, cond_false]
            rw [wrapS (by omega)]
            exact .inl ⟨rfl, trivial⟩
          · simp only [hc, ne_eq, not_false_eq_true, decide_true, cond_true, cond_false]
            exact .inr ⟨_, rfl, hc⟩) (by simp) l.length 0 (by omega)
    rcases L1 with ⟨e, _⟩ | ⟨k, e, hq⟩
    · have e : loopC _ (0 : Int) = _ := e
      rw [e]
      simp only [Option.bind_some, onSum]
      have L2 := loop_all (B := fun z9 =>
     bif (decide (z9 < (((List.length l) : Nat) : Int))) then (((Go.Lf.idx l z9)).bind fun r10 =>
       bif (decide ((r10.2.1 : List (UInt8)) = ([] : List (UInt8)))) then some (.inl ())
       else ((Go.Fn.style_Find l r10.2.1)).bind fun r11 =>
       bif (!r11.2) then some (.inr (z9, (64 : Int)))
       else ((Go.Fn.style_ends l z9)).bind fun r12 =>
       bif (!r12) then some (.inr (z9, (65 : Int)))
       else some (.inl ()) : Option ((Unit) ⊕ ((Int) × (Int)))).bind fun r13 =>
     Go.Lf.onSum r13 (fun a14 =>
     some (.inl (Go.IntKind.wrap .i64 (z9 + (1 : Int))))) (fun b15 =>
     some (.inr (.inr (b15.1, b15.2))))
     else some (.inr (.inl ()))) l.length (fun i => ∃ r, style_whole l (i : Int) = some r) (fun k : Int × Int => k.2 ≠ 0) (fun i hi => by
        have hg : idx l (i : Int) = some l[i] := by rw [idx_nat, List.getElem?_eq_getElem hi]
        have e1 : (i : Int) < ((l.length : Nat) : Int) := by omega
        simp only [e1, decide_true, cond_true, hg, Option.bind_some, sfind_eq l _ (show l.length < 9223372036854775807 by omega)]
        by_cases hb : l[i].2.1 = []
        · simp only [hb, decide_true, cond_true, Option.bind_some, onSum]
          rw [wrapS (by omega)]
          exact .inl ⟨rfl, whole_tot l (by omega) i hi (.inl hb)⟩
        · simp only [hb, decide_false, cond_false]
          cases hf : fnd l l[i].2.1 with
          | none => exact .inr ⟨_, rfl, (show (64 : Int) ≠ 0 by decide)⟩
          | some j =>
            obtain ⟨r, e, h⟩ := ends_eq l (by omega) i hi
            simp only [Bool.not_true, cond_false, e, Option.bind_some]
            cases r with
            | false => exact .inr ⟨_, rfl, (show (65 : Int) ≠ 0 by decide)⟩
            | true =>
              simp only [Bool.not_true, cond_false, Option.bind_some, onSum]
              rw [wrapS (by omega)]
              exact .inl ⟨rfl, h rfl⟩) (by simp) l.length 0 (by omega)
      rcases L2 with ⟨e2, hp⟩ | ⟨k, e2, hq⟩
      · have e2 : loopC _ (0 : Int) = _ := e2
        simp only [onSum] at e2
        rw [e2]
        exact ⟨_, _, rfl, fun _ i hi => hp i (by omega) hi⟩
      · have e2 : loopC _ (0 : Int) = _ := e2
        simp only [onSum] at e2
        rw [e2]
        exact ⟨_, _, rfl, fun h => absurd h hq⟩
    · have e : loopC _ (0 : Int) = _ := e
      rw [e]
      exact ⟨_, _, rfl, fun h => absurd h hq⟩
end Go.Fn
/- Chapter 6, plainly: StyleSplits. -/
namespace Go.Fn
open Go Go.Lf

theorem chain_tot (l : List Sty) (hl : l.length < 9223372036854775807) (B : Int × Int → Option ((Int × Int) ⊕ (Unit ⊕ Int))) (hB : ∀ z1, B z1 = (((Go.Lf.idx l z1.2)).bind fun r2 =>
     bif (decide ((r2.2.1 : List (UInt8)) ≠ ([] : List (UInt8)))) then ((Go.Lf.idx l z1.2)).bind fun r3 =>
     ((Go.Fn.folioref06_Find l r3.2.1)).bind fun r4 =>
     bif (!r4.2) then bif (decide ((z1.1 : Int) = (1 : Int))) then some (.inr (.inr (64 : Int)))
     else some (.inr (.inr (0 : Int)))
     else bif (decide ((8 : Int) < (Go.IntKind.wrap .i64 (z1.1 + (1 : Int))))) then some (.inr (.inr (65 : Int)))
     else some (.inl ((Go.IntKind.wrap .i64 (z1.1 + (1 : Int))), r4.1))
     else some (.inr (.inl ())))) : ∀ (m k i : Nat), k + m = 8 → i < l.length → ∃ r, loopC B ((k : Int), (i : Int)) = some r
  | m, k, i, hk, hi => by
    have hg : idx l (i : Int) = some l[i] := by rw [idx_nat, List.getElem?_eq_getElem hi]
    rw [loopC_step, hB]
    simp only [hg, Option.bind_some, rfind_eq l _ hl]
    by_cases hb : l[i].2.1 = []
    · simp only [hb, ne_eq, not_true_eq_false, decide_false, cond_false]
      exact ⟨_, rfl⟩
    · simp only [hb, ne_eq, not_false_eq_true, decide_true, cond_true]
      cases hf : fnd l l[i].2.1 with
      | none =>
        simp only [Bool.not_false, cond_true]
        by_cases h1 : (k : Int) = 1
        · simp only [h1, decide_true, cond_true]; exact ⟨_, rfl⟩
        · simp only [h1, decide_false, cond_false]; exact ⟨_, rfl⟩
      | some j =>
        simp only [Bool.not_true, cond_false]
        rw [wrapS (by omega)]
        cases m with
        | zero =>
          have : (8 : Int) < ((k + 1 : Nat) : Int) := by omega
          simp only [this, decide_true, cond_true]
          exact ⟨_, rfl⟩
        | succ m =>
          have : ¬ (8 : Int) < ((k + 1 : Nat) : Int) := by omega
          simp only [this, decide_false, cond_false, Option.bind_some]
          exact chain_tot l hl B hB m (k + 1) j (by omega) (fnd_lt l _ j hf)
theorem rchain_tot (l : List Sty) (hl : l.length < 9223372036854775807) (i : Nat) (hi : i < l.length) : ∃ r, folioref06_chain l (i : Int) = some r := by
  unfold folioref06_chain
  obtain ⟨r, e⟩ := chain_tot l hl _ (fun _ => rfl) 7 1 i rfl hi
  have e : loopC _ ((1 : Int), (i : Int)) = some r := e
  rw [e]
  cases r <;> exact ⟨_, rfl⟩
theorem rcheck_tot (l : List Sty) (hf : Fine l) : ∃ r, folioref06_Check l = some r := by
  obtain ⟨hlen, hall⟩ := hf
  unfold folioref06_Check
  by_cases h64 : (64 : Int) < ((l.length : Nat) : Int)
  · simp only [h64, decide_true, cond_true]
    exact ⟨_, rfl⟩
  · simp only [h64, decide_false, cond_false]
    have L1 := loop_all (B := fun z1 =>
     bif (decide (z1 < (((List.length l) : Nat) : Int))) then ((Go.Lf.idx l z1)).bind fun r2 =>
     ((Go.Fn.folioref06_Name r2.1)).bind fun r3 =>
     bif (!r3) then some (.inr (.inr (z1, (60 : Int))))
     else ((Go.Lf.idx l z1)).bind fun r4 =>
     ((Go.Fn.folioref06_Find l r4.1)).bind fun r5 =>
     bif (decide (r5.1 < z1)) then some (.inr (.inr (z1, (61 : Int))))
     else ((Go.Lf.idx l z1)).bind fun r6 =>
     ((Go.Fn.folioref06_own r6.2.2.1)).bind fun r7 =>
     bif (decide ((r7 : Int) ≠ (0 : Int))) then some (.inr (.inr (z1, r7)))
     else some (.inl (Go.IntKind.wrap .i64 (z1 + (1 : Int))))
     else some (.inr (.inl ()))) l.length (fun _ => True) (fun _ : Int × Int => True) (fun i hi => by
      have hg : idx l (i : Int) = some l[i] := by rw [idx_nat, List.getElem?_eq_getElem hi]
      have e1 : (i : Int) < ((l.length : Nat) : Int) := by omega
      obtain ⟨a1, a2, a3, a4⟩ := hall l[i] (List.getElem_mem hi)
      unfold lim at a1 a2
      simp only [e1, decide_true, cond_true, hg, Option.bind_some, rname_eq l[i].1 (by omega), rfind_eq l _ (show l.length < 9223372036854775807 by omega), own_eq]
      rw [wrapS (by omega)]
      cases okName l[i].1 with
      | false => exact .inr ⟨_, rfl, trivial⟩
      | true =>
        simp only [Bool.not_true, cond_false]
        have hd : ∀ d : Int × Bool, (∃ k, (bif decide (d.1 < (i : Int)) then some (.inr (.inr ((i : Int), (61 : Int)))) else bif (decide (chgS l[i].2.2.1 ≠ 0)) then some (.inr (.inr ((i : Int), chgS l[i].2.2.1))) else some (.inl ((i + 1 : Nat) : Int)) : Option (Int ⊕ (Unit ⊕ (Int × Int)))) = some (.inr (.inr k))) ∨ (bif decide (d.1 < (i : Int)) then some (.inr (.inr ((i : Int), (61 : Int)))) else bif (decide (chgS l[i].2.2.1 ≠ 0)) then some (.inr (.inr ((i : Int), chgS l[i].2.2.1))) else some (.inl ((i + 1 : Nat) : Int)) : Option (Int ⊕ (Unit ⊕ (Int × Int)))) = some (.inl ((i + 1 : Nat) : Int)) := fun d => by
          cases decide (d.1 < (i : Int)) with
          | true => exact .inl ⟨_, rfl⟩
          | false =>
            cases decide (chgS l[i].2.2.1 ≠ 0) with
            | true => exact .inl ⟨_, rfl⟩
            | false => exact .inr rfl
        rcases hd _ with ⟨k, h⟩ | h
        · exact .inr ⟨k, h, trivial⟩
        · exact .inl ⟨h, trivial⟩) (by simp) l.length 0 (by omega)
    rcases L1 with ⟨e, _⟩ | ⟨k, e, _⟩
    · have e : loopC _ (0 : Int) = _ := e
      rw [e]
      simp only [Option.bind_some, onSum]
      have L2 := loop_all (B := fun z10 =>
     bif (decide (z10 < (((List.length l) : Nat) : Int))) then ((Go.Fn.folioref06_chain l z10)).bind fun r11 =>
     bif (decide ((r11 : Int) ≠ (0 : Int))) then some (.inr (.inr (z10, r11)))
     else some (.inl (Go.IntKind.wrap .i64 (z10 + (1 : Int))))
     else some (.inr (.inl ()))) l.length (fun _ => True) (fun _ : Int × Int => True) (fun i hi => by
        have e1 : (i : Int) < ((l.length : Nat) : Int) := by omega
        obtain ⟨r, e⟩ := rchain_tot l (by omega) i hi
        simp only [e1, decide_true, cond_true, e, Option.bind_some]
        rw [wrapS (by omega)]
        cases decide (r ≠ 0) with
        | true => exact .inr ⟨_, rfl, trivial⟩
        | false => exact .inl ⟨rfl, trivial⟩) (by simp) l.length 0 (by omega)
      rcases L2 with ⟨e2, _⟩ | ⟨k, e2, _⟩
      · have e2 : loopC _ (0 : Int) = _ := e2
        rw [e2]
        exact ⟨_, rfl⟩
      · have e2 : loopC _ (0 : Int) = _ := e2
        rw [e2]
        exact ⟨_, rfl⟩
    · have e : loopC _ (0 : Int) = _ := e
      rw [e]
      exact ⟨_, rfl⟩

/-- names, one within another -/
noncomputable def nst (l : List Sty) : List Bs → Lok → Option Lok
  | [], k => some k
  | n :: r, k => match fnd l n with
    | none => none
    | some i => match style_whole l (i : Int) with
      | some c => nst l r (applyS k c)
      | none => none
theorem nst_cons (l : List Sty) (n : Bs) (r : List Bs) (k : Lok) : nst l (n :: r) k = match fnd l n with
    | none => none
    | some i => match style_whole l (i : Int) with
      | some c => nst l r (applyS k c)
      | none => none := rfl
theorem nst_app (l : List Sty) : ∀ (a b : List Bs) (k : Lok), nst l (a ++ b) k = (nst l a k).bind (nst l b)
  | [], b, k => rfl
  | n :: a, b, k => by
    rw [List.cons_append, nst_cons, nst_cons]
    cases fnd l n with
    | none => rfl
    | some i =>
      dsimp only
      cases style_whole l (i : Int) with
      | none => rfl
      | some c => exact nst_app l a b _
theorem bv_idem (l a b : BitVec 64) : ((((l ||| a) &&& ~~~b) ||| a) &&& ~~~b) = ((l ||| a) &&& ~~~b) := by
  apply BitVec.eq_of_getLsbD_eq
  intro i hi
  simp only [BitVec.getLsbD_or, BitVec.getLsbD_and, BitVec.getLsbD_not, hi, decide_true, Bool.true_and]
  generalize l.getLsbD i = l
  generalize a.getLsbD i = a
  generalize b.getLsbD i = b
  cases l <;> cases a <;> cases b <;> decide
theorem apply_idem (k : Lok) (c : Chg) : applyS (applyS k c) c = applyS k c := by
  unfold applyS
  simp only [num_inj, bv_idem]
  by_cases h : c.2.2.1 = -1 <;> simp [h]
def dbl : List Bs → List Bs
  | [] => []
  | n :: r => n :: n :: dbl r
theorem dbl_len : ∀ a : List Bs, (dbl a).length = 2 * a.length
  | [] => rfl
  | n :: r => by unfold dbl; simp only [List.length_cons]; rw [dbl_len r]; omega
theorem nst_dbl (l : List Sty) : ∀ (a : List Bs) (k : Lok), nst l (dbl a) k = nst l a k
  | [], k => rfl
  | n :: r, k => by
    unfold dbl
    rw [nst_cons, nst_cons]
    cases h : fnd l n with
    | none => rfl
    | some i =>
      dsimp only
      cases h2 : style_whole l (i : Int) with
      | none => rfl
      | some c =>
        dsimp only
        rw [nst_cons, h]
        dsimp only
        rw [h2]
        dsimp only
        rw [apply_idem, nst_dbl l r]
section
variable (l : List Sty) (hl : l.length < 9223372036854775807) (hw : ∀ i, i < l.length → ∃ r, style_whole l (i : Int) = some r)
include hl hw
theorem nest_eq (p : Int) (hc : style_Check l = some (p, 0)) (ns : List Bs) (hn : ns.length ≤ 32) : ∃ r, style_Nest l ns = some r ∧ (match nst l ns (0, 7, ()) with | some k => r = (k, 0, 0) | none => r.2.2 = 66) := by
  unfold style_Nest
  have h32 : ¬ (32 : Int) < ((ns.length : Nat) : Int) := by omega
  simp only [hc, Option.bind_some, ne_eq, not_true_eq_false, decide_false, cond_false, h32]
  have key : ∀ (B : Int × Lok × Lok → Option ((Int × Lok × Lok) ⊕ ((Lok × Lok) ⊕ (Int × Int × Lok)))) (hB : ∀ z2, B z2 = (bif (decide (z2.1 < (((List.length ns) : Nat) : Int))) then ((Go.Lf.idx ns z2.1)).bind fun r3 =>
     ((Go.Fn.style_Find l r3)).bind fun r4 =>
     bif (!r4.2) then some (.inr (.inr (z2.1, ((66 : Int), ((0 : Int), ((0 : Int), ()))))))
     else ((Go.Fn.style_whole l r4.1)).bind fun r5 =>
     ((Go.Fn.style_Apply z2.2.2 r5)).bind fun r6 =>
     some (.inl ((Go.IntKind.wrap .i64 (z2.1 + (1 : Int))), (z2.2.1, r6)))
     else some (.inr (.inl (z2.2.1, z2.2.2))))) (z0 : Lok) (m i : Nat) (k : Lok), i + m = ns.length → ∃ r, loopC B ((i : Int), z0, k) = some r ∧ (match nst l (ns.drop i) k with | some k' => r = .inl (z0, k') | none => ∃ j, r = .inr (j, 66, (0, 0, ()))) := fun B hB z0 m => by
    induction m with
    | zero =>
      intro i k h
      have : i = ns.length := by omega
      subst this
      rw [loopC_step, hB, List.drop_length]
      simp only [Int.lt_irrefl, decide_false, cond_false, Option.bind_some]
      exact ⟨_, rfl, rfl⟩
    | succ m ih =>
      intro i k h
      have hi : i < ns.length := by omega
      have hg : idx ns (i : Int) = some ns[i] := by rw [idx_nat, List.getElem?_eq_getElem hi]
      have e1 : (i : Int) < ((ns.length : Nat) : Int) := by omega
      rw [loopC_step, hB, List.drop_eq_getElem_cons hi, nst_cons]
      simp only [e1, decide_true, cond_true, hg, Option.bind_some, sfind_eq l _ hl]
      cases hf : fnd l ns[i] with
      | none => exact ⟨_, rfl, (i : Int), rfl⟩
      | some j =>
        obtain ⟨c, hcw⟩ := hw j (fnd_lt l _ j hf)
        simp only [Bool.not_true, cond_false, hcw, Option.bind_some, apply_eq]
        rw [wrapS (by omega)]
        exact ih (i + 1) _ (by omega)
  obtain ⟨r, e, h⟩ := key _ (fun _ => rfl) (0, 0, ()) ns.length 0 (0, 7, ()) (by omega)
  have e : loopC _ ((0 : Int), ((0 : Int), (0 : Int), ()), ((0 : Int), (7 : Int), ())) = some r := e
  rw [e]
  rw [List.drop_zero] at h
  cases hk : nst l ns (0, 7, ()) with
  | some k =>
    rw [hk] at h
    have h : r = _ := h
    subst h
    exact ⟨_, rfl, rfl⟩
  | none =>
    rw [hk] at h
    obtain ⟨j, h⟩ : ∃ j, r = .inr (j, 66, (0, 0, ())) := h
    subst h
    exact ⟨_, rfl, rfl⟩
end
end Go.Fn
/- Chapter 6, plainly: StyleSplits. -/
namespace Go.Fn
open Go Go.Lf

def BASE : List Sty := [([98], [], (1, 0, -1, ()), ()), ([105], [], (2, 0, -1, ()), ()), ([117], [], (4, 0, -1, ()), ()), ([115], [], (8, 0, -1, ()), ()), ([109], [], (16, 0, -1, ()), ()), ([104], [], (5, 0, -1, ()), ())]
theorem rbase_eq : folioref06_Base = some BASE := rfl
def okB (s : Sty) : Bool := Nat.ble s.1.length lim && Nat.ble s.2.1.length lim && decide (IntKind.i64.min ≤ s.2.2.1.1) && decide (s.2.2.1.1 ≤ IntKind.i64.max) && decide (IntKind.i64.min ≤ s.2.2.1.2.1) && decide (s.2.2.1.2.1 ≤ IntKind.i64.max)
theorem base_fine : ∀ s ∈ BASE, s.1.length ≤ lim ∧ s.2.1.length ≤ lim ∧ Fits s.2.2.1.1 ∧ Fits s.2.2.1.2.1 := by
  have h : BASE.all okB = true := by kernel_rfl
  intro s hs
  have := List.all_eq_true.1 h s hs
  unfold okB at this
  simp only [Bool.and_eq_true] at this
  obtain ⟨⟨⟨⟨⟨h1, h2⟩, h3⟩, h4⟩, h5⟩, h6⟩ := this
  exact ⟨Nat.le_of_ble_eq_true h1, Nat.le_of_ble_eq_true h2, ⟨of_decide_eq_true h3, of_decide_eq_true h4⟩, ⟨of_decide_eq_true h5, of_decide_eq_true h6⟩⟩
theorem fine_all {l : List Sty} (h : l.length * 56 ≤ lim) (ha : ∀ s ∈ l, s.1.length ≤ lim ∧ s.2.1.length ≤ lim ∧ Fits s.2.2.1.1 ∧ Fits s.2.2.1.2.1) : Fine (BASE ++ l) := by
  unfold lim at h
  refine ⟨by rw [List.length_append, show BASE.length = 6 from rfl]; omega, fun s hs => ?_⟩
  rcases List.mem_append.1 hs with hs | hs
  · exact base_fine s hs
  · exact ha s hs
theorem whole_eq (l : List Sty) (h : l.length * 56 ≤ lim) : foliolaw06_whole l = some (BASE ++ l) := by
  unfold lim at h
  unfold foliolaw06_whole
  rw [rbase_eq]
  simp only [Option.bind_some]
  rw [app_of (by rw [show BASE.length = 6 from rfl]; omega)]
  rfl
section
variable (l : List Sty) (hl : l.length < 9223372036854775807) (hw : ∀ i, i < l.length → ∃ r, style_whole l (i : Int) = some r)
include hl hw
theorem splits_loop (p : Int) (hc : style_Check l = some (p, 0)) (ns : List Bs) (hn : ns.length ≤ 15) (c8 : Bool) (k8 : Lok) (B : Int × List Bs × Lok × Lok → Option ((Int × List Bs × Lok × Lok) ⊕ ((List Bs × Lok × Lok) ⊕ Bool))) (hB : ∀ z9, B z9 = (bif (decide (z9.1 < (((List.length ns) : Nat) : Int))) then ((Go.Lf.idx ns z9.1)).bind fun r10 =>
     ((Go.Fn.style_Whole l r10)).bind fun r11 =>
     bif (decide ((r11.2 : Int) ≠ (0 : Int))) then some (.inr (.inr c8))
     else ((Go.Fn.style_Apply z9.2.2.1 r11.1)).bind fun r12 =>
     ((Go.Lf.idx ns z9.1)).bind fun r13 =>
     ((Go.Lf.idx ns z9.1)).bind fun r14 =>
     ((Go.Lf.app (16 : Nat) z9.2.1 (r13 :: (r14 :: ([] : List (List (UInt8))))))).bind fun r15 =>
     some (.inl ((Go.IntKind.wrap .i64 (z9.1 + (1 : Int))), (r15, (r12, z9.2.2.2))))
     else some (.inr (.inl (z9.2.1, (z9.2.2.2, z9.2.2.1)))))) : ∀ (m i : Nat) (out : List Bs) (k : Lok), i + m = ns.length → out.length ≤ 2 * i →
    loopC B ((i : Int), out, k, k8) = some (match nst l (ns.drop i) k with | some k' => .inl (out ++ dbl (ns.drop i), k8, k') | none => .inr c8)
  | 0, i, out, k, h, ho => by
    have : i = ns.length := by omega
    subst this
    rw [loopC_step, hB, List.drop_length]
    simp only [Int.lt_irrefl, decide_false, cond_false, Option.bind_some]
    simp [nst, dbl]
  | m + 1, i, out, k, h, ho => by
    have hi : i < ns.length := by omega
    have hg : idx ns (i : Int) = some ns[i] := by rw [idx_nat, List.getElem?_eq_getElem hi]
    have e1 : (i : Int) < ((ns.length : Nat) : Int) := by omega
    rw [loopC_step, hB, List.drop_eq_getElem_cons hi, nst_cons]
    unfold style_Whole
    simp only [e1, decide_true, cond_true, hg, Option.bind_some, hc, ne_eq, not_true_eq_false, decide_false, cond_false, sfind_eq l _ hl]
    cases hf : fnd l ns[i] with
    | none => rfl
    | some j =>
      obtain ⟨c, hcw⟩ := hw j (fnd_lt l _ j hf)
      simp only [Bool.not_true, cond_false, hcw, Option.bind_some, apply_eq, not_true_eq_false, decide_false]
      rw [wrapS (by omega), app_of (by simp only [List.length_cons, List.length_nil]; omega)]
      simp only [Option.bind_some]
      rw [splits_loop p hc ns hn c8 k8 B hB m (i + 1) _ _ (by omega) (by simp only [List.length_append, List.length_cons, List.length_nil]; omega)]
      cases nst l (ns.drop (i + 1)) (applyS k c) with
      | none => rfl
      | some k' =>
        show _ = some (Sum.inl (out ++ (ns[i] :: ns[i] :: dbl (ns.drop (i + 1))), k8, k'))
        simp
end
theorem splits_law (l : List Sty) (a b : List Bs) (h : l.length * 56 ≤ lim) (ha : ∀ s ∈ l, s.1.length ≤ lim ∧ s.2.1.length ≤ lim ∧ Fits s.2.2.1.1 ∧ Fits s.2.2.1.2.1) : foliolaw06_StyleSplits l a b = some true := by
  have hF := fine_all h ha
  unfold foliolaw06_StyleSplits
  rw [whole_eq l h, awake]
  revert hF
  generalize BASE ++ l = L
  intro hF
  have hl : L.length < 9223372036854775807 := by have := hF.1; omega
  obtain ⟨r3, e3⟩ := rcheck_tot L hF
  simp only [Option.bind_some, Bool.not_true, cond_false, e3]
  by_cases g1 : r3.2 = 0
  · by_cases g2 : (15 : Int) < ((a.length : Nat) : Int)
    · simp [g1, g2]
    · by_cases g3 : (15 : Int) < ((b.length : Nat) : Int)
      · simp [g1, g2, g3]
      · simp only [g1, g2, g3, ne_eq, not_true_eq_false, decide_false, Bool.not_false, cond_true, cond_false, Option.bind_some]
        rw [app_of (l := []) (by simp only [List.length_nil]; omega)]
        simp only [Option.bind_some, List.nil_append]
        rw [app_of (by omega)]
        simp only [Option.bind_some]
        obtain ⟨p, c, hc, htot⟩ := scheck_eq L hF
        by_cases hc0 : c = 0
        · subst hc0
          have hw := htot rfl
          obtain ⟨r5, e5, h5⟩ := nest_eq L hl hw p hc a (by omega)
          obtain ⟨r8, e8, h8⟩ := nest_eq L hl hw p hc (a ++ b) (by simp only [List.length_append]; omega)
          rw [e5, e8]
          simp only [Option.bind_some]
          rw [nst_app] at h8
          cases hk : nst L a (0, 7, ()) with
          | none =>
            rw [hk] at h5 h8
            have h5 : r5.2.2 = 66 := h5
            have h8 : r8.2.2 = 66 := h8
            simp [h5, h8]
          | some k1 =>
            rw [hk] at h5 h8
            have h5 : r5 = (k1, 0, 0) := h5
            have h8 : (match nst L b k1 with | some k => r8 = (k, 0, 0) | none => r8.2.2 = 66) := h8
            subst h5
            simp only [ne_eq, not_true_eq_false, decide_false, cond_false]
            have hs := splits_loop L hl hw p hc b (by omega) (decide (r8.2.2 = 66)) r8.1 _ (fun _ => rfl) b.length 0 [] k1 (by omega) (by simp)
            have hs : loopC _ ((0 : Int), ([] : List Bs), k1, r8.1) = _ := hs
            simp only [ne_eq] at hs
            rw [hs, List.drop_zero]
            simp only [Option.bind_some, List.nil_append]
            cases hk2 : nst L b k1 with
            | none =>
              rw [hk2] at h8
              have h8 : r8.2.2 = 66 := h8
              simp [onSum, h8]
            | some k2 =>
              rw [hk2] at h8
              have h8 : r8 = (k2, 0, 0) := h8
              subst h8
              simp only [onSum]
              have hd := dbl_len b
              rw [wrap64 (by omega) (by omega)]
              by_cases g4 : (32 : Int) < ((a.length : Nat) : Int) + (((dbl b).length : Nat) : Int)
              · simp [g4, look_eq]
              · simp only [g4, decide_false, cond_false, Option.bind_some]
                rw [app_of (by omega)]
                simp only [Option.bind_some]
                obtain ⟨r22, e22, h22⟩ := nest_eq L hl hw p hc (a ++ dbl b) (by simp only [List.length_append]; omega)
                rw [nst_app, hk] at h22
                have h22 : (match nst L (dbl b) k1 with | some k => r22 = (k, 0, 0) | none => r22.2.2 = 66) := h22
                rw [nst_dbl, hk2] at h22
                have h22 : r22 = (k2, 0, 0) := h22
                subst h22
                rw [e22]
                simp [look_eq]
        · unfold style_Nest
          simp [hc, hc0]
  · simp [g1]
end Go.Fn
/- Chapter 6, plainly: sheets, by both ways. -/
namespace Go.Fn
open Go Go.Lf

theorem loop_same {K : Type} {B B' : Int → Option (Int ⊕ K)} (n : Nat) (h1 : ∀ i, i < n → B (i : Int) = B' (i : Int)) (h2 : B (n : Int) = B' (n : Int)) (h3 : ∀ i, i < n → ∀ z, B (i : Int) = some (.inl z) → z = ((i + 1 : Nat) : Int)) (h4 : ∃ k, B (n : Int) = some (.inr k)) :
    ∀ m i : Nat, i + m = n → loopC B (i : Int) = loopC B' (i : Int)
  | 0, i, h => by
    have : i = n := by omega
    subst this
    obtain ⟨k, hk⟩ := h4
    rw [loopC_step, loopC_step (B := B'), ← h2, hk]
    rfl
  | m + 1, i, h => by
    rw [loopC_step, loopC_step (B := B'), ← h1 i (by omega)]
    cases hb : B (i : Int) with
    | none => rfl
    | some r =>
      cases r with
      | inr k => rfl
      | inl z =>
        have := h3 i (by omega) z hb
        subst this
        exact loop_same n h1 h2 h3 h4 m (i + 1) (by omega)
/-- does a style's line of parents end? -/
def endsS (l : List Sty) : Nat → Nat → Bool
  | 0, _ => false
  | m + 1, i => match l[i]? with
    | none => true
    | some s => if s.2.1 = [] then true else match fnd l s.2.1 with
      | none => true
      | some j => endsS l m j
theorem endsS_succ (l : List Sty) (m i : Nat) : endsS l (m + 1) i = match l[i]? with
    | none => true
    | some s => if s.2.1 = [] then true else match fnd l s.2.1 with
      | none => true
      | some j => endsS l m j := rfl
theorem ends_exact (l : List Sty) (hl : l.length < 9223372036854775807) (B : Int × Int × Bool → Option ((Int × Int × Bool) ⊕ Bool)) (hB : ∀ z1, B z1 = (bif (decide (z1.1 < (8 : Int))) then ((Go.Lf.idx l z1.2.1)).bind fun r2 =>
     ((Go.Fn.style_Find l r2.2.1)).bind fun r3 =>
     (((Go.Lf.idx l z1.2.1)).bind fun r4 =>
       bif (!(decide ((r4.2.1 : List (UInt8)) = ([] : List (UInt8))))) then some (!r3.2)
       else some true).bind fun r5 =>
     bif r5 then some (.inr true)
     else some (.inl ((Go.IntKind.wrap .i64 (z1.1 + (1 : Int))), (r3.1, z1.2.2)))
     else some (.inr z1.2.2))) : ∀ (m k i : Nat), k + m = 8 → i < l.length → loopC B ((k : Int), (i : Int), false) = some (endsS l m i)
  | 0, k, i, hk, hi => by
    have hk8 : ¬ (k : Int) < 8 := by omega
    rw [loopC_step, hB]
    simp only [hk8, decide_false, cond_false, Option.bind_some]
    rfl
  | m + 1, k, i, hk, hi => by
    have hk8 : (k : Int) < 8 := by omega
    have hg : idx l (i : Int) = some l[i] := by rw [idx_nat, List.getElem?_eq_getElem hi]
    rw [loopC_step, hB, endsS_succ, List.getElem?_eq_getElem hi]
    simp only [hk8, decide_true, cond_true, hg, Option.bind_some, sfind_eq l _ hl]
    by_cases hb : l[i].2.1 = []
    · simp only [hb, decide_true, Bool.not_true, cond_false, Option.bind_some, cond_true, if_true]
    · simp only [hb, decide_false, Bool.not_false, cond_true, Option.bind_some, if_false]
      cases hf : fnd l l[i].2.1 with
      | none => rfl
      | some j =>
        simp only [Bool.not_true, cond_false, Option.bind_some]
        rw [wrapS (by omega)]
        exact ends_exact l hl B hB m (k + 1) j (by omega) (fnd_lt l _ j hf)
theorem sends_eq (l : List Sty) (hl : l.length < 9223372036854775807) (i : Nat) (hi : i < l.length) : style_ends l (i : Int) = some (endsS l 8 i) := by
  unfold style_ends
  have e := ends_exact l hl _ (fun _ => rfl) 8 0 i rfl hi
  have e : loopC _ ((0 : Int), ((i : Int), false)) = _ := e
  rw [e]
  rfl
theorem chain_exact (l : List Sty) (hl : l.length < 9223372036854775807) (B : Int × Int → Option ((Int × Int) ⊕ (Unit ⊕ Int))) (hB : ∀ z1, B z1 = (((Go.Lf.idx l z1.2)).bind fun r2 =>
     bif (decide ((r2.2.1 : List (UInt8)) ≠ ([] : List (UInt8)))) then ((Go.Lf.idx l z1.2)).bind fun r3 =>
     ((Go.Fn.folioref06_Find l r3.2.1)).bind fun r4 =>
     bif (!r4.2) then bif (decide ((z1.1 : Int) = (1 : Int))) then some (.inr (.inr (64 : Int)))
     else some (.inr (.inr (0 : Int)))
     else bif (decide ((8 : Int) < (Go.IntKind.wrap .i64 (z1.1 + (1 : Int))))) then some (.inr (.inr (65 : Int)))
     else some (.inl ((Go.IntKind.wrap .i64 (z1.1 + (1 : Int))), r4.1))
     else some (.inr (.inl ())))) : ∀ (m k i : Nat), k + m = 8 → 2 ≤ k → i < l.length → ∃ r, loopC B ((k : Int), (i : Int)) = some r ∧ onSum r (fun _ => (0 : Int)) (fun x => x) = if endsS l (m + 1) i then 0 else 65
  | m, k, i, hk, hk2, hi => by
    have hg : idx l (i : Int) = some l[i] := by rw [idx_nat, List.getElem?_eq_getElem hi]
    rw [loopC_step, hB, endsS_succ, List.getElem?_eq_getElem hi]
    simp only [hg, Option.bind_some, rfind_eq l _ hl]
    by_cases hb : l[i].2.1 = []
    · simp only [hb, ne_eq, not_true_eq_false, decide_false, cond_false, if_true]
      exact ⟨_, rfl, rfl⟩
    · simp only [hb, ne_eq, not_false_eq_true, decide_true, cond_true, if_false]
      cases hf : fnd l l[i].2.1 with
      | none =>
        have h1 : ¬ (k : Int) = 1 := by omega
        simp only [Bool.not_false, cond_true, h1, decide_false, cond_false]
        exact ⟨_, rfl, rfl⟩
      | some j =>
        simp only [Bool.not_true, cond_false]
        rw [wrapS (by omega)]
        cases m with
        | zero =>
          have : (8 : Int) < ((k + 1 : Nat) : Int) := by omega
          simp only [this, decide_true, cond_true]
          exact ⟨_, rfl, rfl⟩
        | succ m =>
          have : ¬ (8 : Int) < ((k + 1 : Nat) : Int) := by omega
          simp only [this, decide_false, cond_false, Option.bind_some]
          exact chain_exact l hl B hB m (k + 1) j (by omega) (by omega) (fnd_lt l _ j hf)
theorem rchain_eq (l : List Sty) (hl : l.length < 9223372036854775807) (i : Nat) (hi : i < l.length) : folioref06_chain l (i : Int) = some (if l[i].2.1 = [] then 0 else if fnd l l[i].2.1 = none then 64 else if endsS l 8 i then 0 else 65) := by
  unfold folioref06_chain
  have hg : idx l (i : Int) = some l[i] := by rw [idx_nat, List.getElem?_eq_getElem hi]
  rw [endsS_succ, List.getElem?_eq_getElem hi]
  have key : ∀ B : Int × Int → Option ((Int × Int) ⊕ (Unit ⊕ Int)), (∀ z1, B z1 = (((Go.Lf.idx l z1.2)).bind fun r2 =>
     bif (decide ((r2.2.1 : List (UInt8)) ≠ ([] : List (UInt8)))) then ((Go.Lf.idx l z1.2)).bind fun r3 =>
     ((Go.Fn.folioref06_Find l r3.2.1)).bind fun r4 =>
     bif (!r4.2) then bif (decide ((z1.1 : Int) = (1 : Int))) then some (.inr (.inr (64 : Int)))
     else some (.inr (.inr (0 : Int)))
     else bif (decide ((8 : Int) < (Go.IntKind.wrap .i64 (z1.1 + (1 : Int))))) then some (.inr (.inr (65 : Int)))
     else some (.inl ((Go.IntKind.wrap .i64 (z1.1 + (1 : Int))), r4.1))
     else some (.inr (.inl ())))) → (loopC B ((1 : Int), (i : Int))).bind (fun r5 => onSum r5 (fun _ => some (0 : Int)) (fun b7 => some b7)) = some (if l[i].2.1 = [] then 0 else if fnd l l[i].2.1 = none then 64 else if (if l[i].2.1 = [] then true else match fnd l l[i].2.1 with | none => true | some j => endsS l 7 j) = true then 0 else 65) := fun B hB => by
    rw [loopC_step, hB]
    simp only [hg, Option.bind_some, rfind_eq l _ hl]
    by_cases hb : l[i].2.1 = []
    · simp only [hb, ne_eq, not_true_eq_false, decide_false, cond_false, if_true, Option.bind_some, onSum]
    · simp only [hb, ne_eq, not_false_eq_true, decide_true, cond_true, if_false]
      cases hf : fnd l l[i].2.1 with
      | none => rfl
      | some j =>
        have h8 : ¬ (8 : Int) < IntKind.wrap .i64 (1 + 1) := by decide
        have h2 : IntKind.wrap .i64 ((1 : Int) + 1) = ((2 : Nat) : Int) := by decide
        simp only [Bool.not_true, cond_false, h8, decide_false, Option.bind_some]
        rw [h2]
        obtain ⟨r, e, h⟩ := chain_exact l hl B hB 6 2 j rfl (by omega) (fnd_lt l _ j hf)
        rw [e]
        have hr : ∀ r : Unit ⊕ Int, (some r).bind (fun r5 => onSum r5 (fun _ => some (0 : Int)) (fun b7 => some b7)) = some (onSum r (fun _ => (0 : Int)) (fun x => x)) := fun r => by cases r <;> rfl
        rw [hr, h]
        simp
  exact key _ fun _ => rfl
theorem fnd_self : ∀ (l : List Sty) (i : Nat) (hi : i < l.length), ∃ j, fnd l l[i].1 = some j ∧ j ≤ i
  | [], i, hi => absurd hi (Nat.not_lt_zero _)
  | s :: r, 0, _ => ⟨0, if_pos rfl, Nat.le_refl _⟩
  | s :: r, i + 1, hi => by
    simp only [List.getElem_cons_succ]
    unfold fnd
    by_cases h : s.1 = (r[i]'(by simpa using hi)).1
    · exact ⟨0, if_pos h, Nat.zero_le _⟩
    · obtain ⟨j, h1, h2⟩ := fnd_self r i (by simpa using hi)
      rw [if_neg h, h1]
      exact ⟨j + 1, rfl, by omega⟩
theorem fnd_take : ∀ (l : List Sty) (n : Bs) (i j : Nat), fnd l n = some j → (fnd (l.take i) n).isSome = decide (j < i)
  | [], n, i, j, h => by cases h
  | s :: r, n, 0, j, h => by simp [fnd]
  | s :: r, n, i + 1, j, h => by
    rw [List.take_succ_cons]
    unfold fnd at h ⊢
    by_cases hs : s.1 = n
    · rw [if_pos hs] at h ⊢
      injection h with h
      subst h
      simp
    · rw [if_neg hs] at h ⊢
      cases hr : fnd r n with
      | none => rw [hr] at h; cases h
      | some k =>
        rw [hr] at h
        have h : k + 1 = j := by injection h
        subst h
        rw [Option.isSome_map, fnd_take r n i k hr]
        exact decide_eq_decide.2 (by omega)
theorem check_same (l : List Sty) (hf : Fine l) : folioref06_Check l = style_Check l := by
  obtain ⟨hlen, hall⟩ := hf
  unfold style_Check folioref06_Check
  by_cases h64 : (64 : Int) < ((l.length : Nat) : Int)
  · simp only [h64, decide_true, cond_true]
  · simp only [h64, decide_false, cond_false]
    have L1 := loop_same (B := fun z1 =>
     bif (decide (z1 < (((List.length l) : Nat) : Int))) then ((Go.Lf.idx l z1)).bind fun r2 =>
     ((Go.Fn.folioref06_Name r2.1)).bind fun r3 =>
     bif (!r3) then some (.inr (.inr (z1, (60 : Int))))
     else ((Go.Lf.idx l z1)).bind fun r4 =>
     ((Go.Fn.folioref06_Find l r4.1)).bind fun r5 =>
     bif (decide (r5.1 < z1)) then some (.inr (.inr (z1, (61 : Int))))
     else ((Go.Lf.idx l z1)).bind fun r6 =>
     ((Go.Fn.folioref06_own r6.2.2.1)).bind fun r7 =>
     bif (decide ((r7 : Int) ≠ (0 : Int))) then some (.inr (.inr (z1, r7)))
     else some (.inl (Go.IntKind.wrap .i64 (z1 + (1 : Int))))
     else some (.inr (.inl ()))) (B' := fun z1 =>
     bif (decide (z1 < (((List.length l) : Nat) : Int))) then ((Go.Lf.idx l z1)).bind fun r2 =>
     ((Go.Fn.style_named r2.1)).bind fun r3 =>
     bif (!r3) then some (.inr (.inr (z1, (60 : Int))))
     else ((Go.Lf.sub l (0 : Int) z1)).bind fun r4 =>
     ((Go.Fn.style_Find r4 r2.1)).bind fun r5 =>
     bif r5.2 then some (.inr (.inr (z1, (61 : Int))))
     else ((Go.Fn.style_change r2.2.2.1)).bind fun r6 =>
     bif (decide ((r6 : Int) ≠ (0 : Int))) then some (.inr (.inr (z1, r6)))
     else some (.inl (Go.IntKind.wrap .i64 (z1 + (1 : Int))))
     else some (.inr (.inl ()))) (K := Unit ⊕ (Int × Int)) l.length (fun i hi => by
        have hg : idx l (i : Int) = some l[i] := by rw [idx_nat, List.getElem?_eq_getElem hi]
        have e1 : (i : Int) < ((l.length : Nat) : Int) := by omega
        obtain ⟨a1, a2, a3, a4⟩ := hall l[i] (List.getElem_mem hi)
        unfold lim at a1 a2
        have hsub : sub l 0 (i : Int) = some (l.take i) := by
          have := sub_nat (l := l) (a := 0) (b := i) (by omega) (by omega)
          simpa using this
        obtain ⟨j, hj1, hj2⟩ := fnd_self l i hi
        have ht := fnd_take l l[i].1 i j hj1
        simp only [e1, decide_true, cond_true, hg, Option.bind_some, named_eq l[i].1 (by omega), rname_eq l[i].1 (by omega), hsub, sfind_eq (l.take i) _ (by simp; omega), rfind_eq l _ (show l.length < 9223372036854775807 by omega), change_eq _ ⟨a3, a4⟩, own_eq, hj1]
        cases okName l[i].1 with
        | false => rfl
        | true =>
          simp only [Bool.not_true, cond_false]
          by_cases hji : j < i
          · have h2 : (j : Int) < (i : Int) := by omega
            rw [decide_eq_true hji] at ht
            obtain ⟨q, hq⟩ := Option.isSome_iff_exists.1 ht
            simp only [h2, hq, decide_true, cond_true]
          · have h2 : ¬ (j : Int) < (i : Int) := by omega
            rw [decide_eq_false hji] at ht
            have hq : fnd (l.take i) l[i].1 = none := by simpa using ht
            simp only [h2, hq, decide_false, cond_false]) (by simp) (fun i hi z hz => by
        have hg : idx l (i : Int) = some l[i] := by rw [idx_nat, List.getElem?_eq_getElem hi]
        have e1 : (i : Int) < ((l.length : Nat) : Int) := by omega
        obtain ⟨a1, a2, a3, a4⟩ := hall l[i] (List.getElem_mem hi)
        unfold lim at a1 a2
        obtain ⟨j, hj1, hj2⟩ := fnd_self l i hi
        simp only [e1, decide_true, cond_true, hg, Option.bind_some, rname_eq l[i].1 (by omega), rfind_eq l _ (show l.length < 9223372036854775807 by omega), own_eq, hj1] at hz
        rw [wrapS (by omega)] at hz
        cases hk : okName l[i].1 with
        | false => rw [hk] at hz; cases hz
        | true =>
          rw [hk] at hz
          simp only [Bool.not_true, cond_false] at hz
          cases h2 : decide ((j : Int) < (i : Int)) with
          | true => rw [h2] at hz; cases hz
          | false =>
            rw [h2] at hz
            simp only [cond_false] at hz
            cases h3 : decide (chgS l[i].2.2.1 ≠ 0) with
            | true => rw [h3] at hz; cases hz
            | false =>
              rw [h3] at hz
              simp only [cond_false] at hz
              injection hz with hz
              injection hz with hz
              exact hz.symm) ⟨_, by simp; rfl⟩ l.length 0 (by omega)
    have L1 : loopC _ (0 : Int) = loopC _ (0 : Int) := L1
    rw [L1]
    congr 1
    funext r
    cases r with
    | inr k => rfl
    | inl u =>
      simp only [onSum]
      have L2 := loop_same (B := fun z10 =>
     bif (decide (z10 < (((List.length l) : Nat) : Int))) then ((Go.Fn.folioref06_chain l z10)).bind fun r11 =>
     bif (decide ((r11 : Int) ≠ (0 : Int))) then some (.inr (.inr (z10, r11)))
     else some (.inl (Go.IntKind.wrap .i64 (z10 + (1 : Int))))
     else some (.inr (.inl ()))) (B' := fun z9 =>
     bif (decide (z9 < (((List.length l) : Nat) : Int))) then (((Go.Lf.idx l z9)).bind fun r10 =>
       bif (decide ((r10.2.1 : List (UInt8)) = ([] : List (UInt8)))) then some (.inl ())
       else ((Go.Fn.style_Find l r10.2.1)).bind fun r11 =>
       bif (!r11.2) then some (.inr (z9, (64 : Int)))
       else ((Go.Fn.style_ends l z9)).bind fun r12 =>
       bif (!r12) then some (.inr (z9, (65 : Int)))
       else some (.inl ()) : Option ((Unit) ⊕ ((Int) × (Int)))).bind fun r13 =>
     Go.Lf.onSum r13 (fun a14 =>
     some (.inl (Go.IntKind.wrap .i64 (z9 + (1 : Int))))) (fun b15 =>
     some (.inr (.inr (b15.1, b15.2))))
     else some (.inr (.inl ()))) (K := Unit ⊕ (Int × Int)) l.length (fun i hi => by
        have hg : idx l (i : Int) = some l[i] := by rw [idx_nat, List.getElem?_eq_getElem hi]
        have e1 : (i : Int) < ((l.length : Nat) : Int) := by omega
        have hl : l.length < 9223372036854775807 := by omega
        simp only [e1, decide_true, cond_true, hg, Option.bind_some, sfind_eq l _ hl, rchain_eq l hl i hi, sends_eq l hl i hi]
        by_cases hb : l[i].2.1 = []
        · simp [hb, onSum]
        · cases hf : fnd l l[i].2.1 with
          | none => simp [hb, onSum]
          | some j => cases he : endsS l 8 i <;> simp [hb, onSum]) (by simp) (fun i hi z hz => by
        have e1 : (i : Int) < ((l.length : Nat) : Int) := by omega
        have hl : l.length < 9223372036854775807 := by omega
        simp only [e1, decide_true, cond_true, rchain_eq l hl i hi, Option.bind_some] at hz
        rw [wrapS (by omega)] at hz
        revert hz
        generalize decide ((if l[i].2.1 = [] then (0 : Int) else if fnd l l[i].2.1 = none then 64 else if endsS l 8 i = true then 0 else 65) ≠ 0) = d
        intro hz
        cases d with
        | true => cases hz
        | false =>
          simp only [cond_false] at hz
          injection hz with hz
          injection hz with hz
          exact hz.symm) ⟨_, by simp; rfl⟩ l.length 0 (by omega)
      have L2 : loopC _ (0 : Int) = loopC _ (0 : Int) := L2
      simp only [onSum] at L2
      rw [L2]
/-- who passes has all parents -/
theorem check_parents (l : List Sty) (hf : Fine l) (h : ∃ p, style_Check l = some (p, 0)) : ∀ i (hi : i < l.length), l[i].2.1 = [] ∨ ∃ j, fnd l l[i].2.1 = some j := by
  obtain ⟨hlen, hall⟩ := hf
  obtain ⟨p, hp⟩ := h
  rw [← check_same l ⟨hlen, hall⟩] at hp
  unfold folioref06_Check at hp
  by_cases h64 : (64 : Int) < ((l.length : Nat) : Int)
  · simp only [h64, decide_true, cond_true] at hp
    injection hp with hp
    injection hp with _ hp
    exact absurd hp (by decide)
  · simp only [h64, decide_false, cond_false] at hp
    obtain ⟨r, hr, hp⟩ := Option.bind_eq_some_iff.1 hp
    have hl : l.length < 9223372036854775807 := by omega
    cases r with
    | inr k =>
      -- the first loop stops with a number that is not zero
      exfalso
      have L1 := loop_all (B := fun z1 =>
     bif (decide (z1 < (((List.length l) : Nat) : Int))) then ((Go.Lf.idx l z1)).bind fun r2 =>
     ((Go.Fn.folioref06_Name r2.1)).bind fun r3 =>
     bif (!r3) then some (.inr (.inr (z1, (60 : Int))))
     else ((Go.Lf.idx l z1)).bind fun r4 =>
     ((Go.Fn.folioref06_Find l r4.1)).bind fun r5 =>
     bif (decide (r5.1 < z1)) then some (.inr (.inr (z1, (61 : Int))))
     else ((Go.Lf.idx l z1)).bind fun r6 =>
     ((Go.Fn.folioref06_own r6.2.2.1)).bind fun r7 =>
     bif (decide ((r7 : Int) ≠ (0 : Int))) then some (.inr (.inr (z1, r7)))
     else some (.inl (Go.IntKind.wrap .i64 (z1 + (1 : Int))))
     else some (.inr (.inl ()))) l.length (fun _ => True) (fun k : Int × Int => k.2 ≠ 0) (fun i hi => by
        have hg : idx l (i : Int) = some l[i] := by rw [idx_nat, List.getElem?_eq_getElem hi]
        have e1 : (i : Int) < ((l.length : Nat) : Int) := by omega
        obtain ⟨a1, a2, a3, a4⟩ := hall l[i] (List.getElem_mem hi)
        unfold lim at a1 a2
        obtain ⟨j, hj1, hj2⟩ := fnd_self l i hi
        simp only [e1, decide_true, cond_true, hg, Option.bind_some, rname_eq l[i].1 (by omega), rfind_eq l _ hl, own_eq, hj1]
        rw [wrapS (by omega)]
        cases okName l[i].1 with
        | false => exact .inr ⟨_, rfl, (show (60 : Int) ≠ 0 by decide)⟩
        | true =>
          simp only [Bool.not_true, cond_false]
          cases decide ((j : Int) < (i : Int)) with
          | true => exact .inr ⟨_, rfl, (show (61 : Int) ≠ 0 by decide)⟩
          | false =>
            simp only [cond_false]
            by_cases hc : chgS l[i].2.2.1 = 0
            · simp only [hc, ne_eq, not_true_eq_false, decide_false, cond_false]
              exact .inl ⟨trivial, trivial⟩
            · simp only [hc, ne_eq, not_false_eq_true, decide_true, cond_true]
              exact .inr ⟨_, rfl, hc⟩) (by simp) l.length 0 (by omega)
      rcases L1 with ⟨e, _⟩ | ⟨k2, e, hq⟩
      · have e : loopC _ (0 : Int) = _ := e
        rw [e] at hr
        cases hr
      · have e : loopC _ (0 : Int) = _ := e
        rw [e] at hr
        injection hr with hr
        injection hr with hr
        subst hr
        simp only [onSum] at hp
        exact hq (congrArg Prod.snd (Option.some.inj hp))
    | inl u =>
      simp only [onSum] at hp
      have L2 := loop_all (B := fun z10 =>
     bif (decide (z10 < (((List.length l) : Nat) : Int))) then ((Go.Fn.folioref06_chain l z10)).bind fun r11 =>
     bif (decide ((r11 : Int) ≠ (0 : Int))) then some (.inr (.inr (z10, r11)))
     else some (.inl (Go.IntKind.wrap .i64 (z10 + (1 : Int))))
     else some (.inr (.inl ()))) l.length (fun i => ∀ hi : i < l.length, l[i].2.1 = [] ∨ ∃ j, fnd l l[i].2.1 = some j) (fun k : Int × Int => k.2 ≠ 0) (fun i hi => by
        have e1 : (i : Int) < ((l.length : Nat) : Int) := by omega
        simp only [e1, decide_true, cond_true, rchain_eq l hl i hi, Option.bind_some]
        rw [wrapS (by omega)]
        by_cases hb : l[i].2.1 = []
        · simp only [hb, if_true, ne_eq, not_true_eq_false, decide_false, cond_false]
          exact .inl ⟨trivial, fun _ => .inl trivial⟩
        · cases hf : fnd l l[i].2.1 with
          | none =>
            simp only [hb, if_false, if_true]
            exact .inr ⟨_, rfl, (show (64 : Int) ≠ 0 by decide)⟩
          | some j =>
            simp only [hb, if_false, reduceCtorEq]
            cases endsS l 8 i with
            | true => exact .inl ⟨rfl, fun _ => .inr ⟨j, hf⟩⟩
            | false => exact .inr ⟨_, rfl, (show (65 : Int) ≠ 0 by decide)⟩) (by simp) l.length 0 (by omega)
      rcases L2 with ⟨_, h⟩ | ⟨k2, e, hq⟩
      · exact fun i hi => h i (Nat.zero_le _) hi hi
      · exfalso
        have e : loopC _ (0 : Int) = _ := e
        rw [e] at hp
        exact hq (congrArg Prod.snd (Option.some.inj hp))
/-- wholes, by both ways -/
theorem wholeN_same (l : List Sty) (hl : l.length < 9223372036854775807) (hp : ∀ i (hi : i < l.length), l[i].2.1 = [] ∨ ∃ j, fnd l l[i].2.1 = some j) : ∀ (n i : Nat), i < l.length → folioref06_wholeN n (l, (i : Int)) = style_wholeN n (l, (i : Int))
  | 0, i, hi => rfl
  | n + 1, i, hi => by
    have hg : idx l (i : Int) = some l[i] := by rw [idx_nat, List.getElem?_eq_getElem hi]
    unfold folioref06_wholeN style_wholeN folioref06_wholeB style_wholeB
    simp only [plain_eq, none_eq, Option.bind_some, hg, sfind_eq l _ hl, rfind_eq l _ hl, then_eq, rthen_eq]
    rcases hp i hi with h | ⟨j, h⟩
    · simp only [h, ne_eq, not_true_eq_false, decide_false, cond_false, Option.bind_some]
      cases fnd l [] <;> rfl
    · by_cases hb : l[i].2.1 = []
      · simp only [hb, ne_eq, not_true_eq_false, decide_false, cond_false, Option.bind_some]
        cases fnd l [] <;> rfl
      · simp only [h, hb, ne_eq, not_false_eq_true, decide_true, cond_true, Option.bind_some, wholeN_same l hl hp n j (fnd_lt l _ j h)]
theorem whole_same (l : List Sty) (hl : l.length < 9223372036854775807) (hp : ∀ i (hi : i < l.length), l[i].2.1 = [] ∨ ∃ j, fnd l l[i].2.1 = some j) (i : Nat) (hi : i < l.length) : folioref06_whole l (i : Int) = style_whole l (i : Int) := by
  unfold folioref06_whole style_whole
  congr 1
  funext n
  exact wholeN_same l hl hp n i hi
theorem Whole_same (l : List Sty) (hf : Fine l) (n : Bs) : folioref06_Whole l n = style_Whole l n := by
  have hl : l.length < 9223372036854775807 := by have := hf.1; omega
  unfold folioref06_Whole style_Whole
  rw [check_same l hf]
  cases hc : style_Check l with
  | none => simp only [Option.bind_none]
  | some r =>
    obtain ⟨p, c⟩ := r
    simp only [Option.bind_some]
    by_cases h0 : c = 0
    · subst h0
      have hp := check_parents l hf ⟨p, hc⟩
      simp only [ne_eq, not_true_eq_false, decide_false, cond_false, sfind_eq l _ hl, rfind_eq l _ hl, Option.bind_some]
      cases h : fnd l n with
      | none => rfl
      | some j => simp only [Bool.not_true, cond_false, whole_same l hl hp j (fnd_lt l _ j h)]
    · simp only [ne_eq, h0, not_false_eq_true, decide_true, cond_true]
theorem Nest_same (l : List Sty) (hf : Fine l) (ns : List Bs) : folioref06_Nest l ns = style_Nest l ns := by
  have hl : l.length < 9223372036854775807 := by have := hf.1; omega
  unfold folioref06_Nest style_Nest
  rw [check_same l hf]
  cases hc : style_Check l with
  | none => simp only [Option.bind_none]
  | some r =>
    obtain ⟨p, c⟩ := r
    simp only [Option.bind_some]
    by_cases h0 : c = 0
    · subst h0
      have hp := check_parents l hf ⟨p, hc⟩
      have hpl : folioref06_Plain = some (0, 7, ()) := rfl
      simp only [ne_eq, not_true_eq_false, decide_false, cond_false, hpl, Option.bind_some]
      have hB : ∀ z2 : Int × Lok × Lok, (bif (decide (z2.1 < (((List.length ns) : Nat) : Int))) then ((Go.Lf.idx ns z2.1)).bind fun r4 =>
     ((Go.Fn.folioref06_Find l r4)).bind fun r5 =>
     bif (!r5.2) then some (.inr (.inr (z2.1, ((66 : Int), ((0 : Int), ((0 : Int), ()))))))
     else ((Go.Fn.folioref06_whole l r5.1)).bind fun r6 =>
     ((Go.Fn.folioref06_Apply z2.2.2 r6)).bind fun r7 =>
     some (.inl ((Go.IntKind.wrap .i64 (z2.1 + (1 : Int))), (z2.2.1, r7)))
     else some (.inr (.inl (z2.2.1, z2.2.2))) : Option ((Int × Lok × Lok) ⊕ ((Lok × Lok) ⊕ (Int × Int × Lok)))) = (bif (decide (z2.1 < (((List.length ns) : Nat) : Int))) then ((Go.Lf.idx ns z2.1)).bind fun r3 =>
     ((Go.Fn.style_Find l r3)).bind fun r4 =>
     bif (!r4.2) then some (.inr (.inr (z2.1, ((66 : Int), ((0 : Int), ((0 : Int), ()))))))
     else ((Go.Fn.style_whole l r4.1)).bind fun r5 =>
     ((Go.Fn.style_Apply z2.2.2 r5)).bind fun r6 =>
     some (.inl ((Go.IntKind.wrap .i64 (z2.1 + (1 : Int))), (z2.2.1, r6)))
     else some (.inr (.inl (z2.2.1, z2.2.2)))) := fun z2 => by
        cases decide (z2.1 < (((List.length ns) : Nat) : Int)) with
        | false => rfl
        | true =>
          simp only [cond_true]
          congr 1
          funext n
          rw [sfind_eq l _ hl, rfind_eq l _ hl]
          simp only [Option.bind_some]
          cases h : fnd l n with
          | none => simp only [Bool.not_false, cond_true]
          | some j => simp only [Bool.not_true, cond_false, whole_same l hl hp j (fnd_lt l _ j h), apply_eq, rapply_eq]
      rw [funext hB]
    · simp only [ne_eq, h0, not_false_eq_true, decide_true, cond_true]
end Go.Fn
open Go Go.Lf
set_option maxRecDepth 10000
namespace Go.Fn
def Tys4 : List (Nat × Go.Lf.TyI) := [(2, ⟨(.int .i64), 0, 0⟩),
 (3, ⟨(.int .i64), 0, 0⟩),
 (4, ⟨.bool, 0, 0⟩),
 (5, ⟨(.int .u8), 0, 0⟩),
 (6, ⟨(.int .u8), 0, 0⟩),
 (7, ⟨(.st (.pr (.int .i64) (.pr (.int .i64) (.pr .bool (.pr (.int .u8) .unit))))), 0, 0⟩),
 (8, ⟨(.st (.pr (.int .i64) (.pr (.int .i64) (.pr .bool (.pr (.int .u8) .unit))))), 0, 0⟩),
 (9, ⟨.str, 0, 0⟩),
 (10, ⟨.str, 0, 0⟩),
 (11, ⟨.str, 0, 0⟩),
 (12, ⟨(.int .u64), 0, 0⟩),
 (13, ⟨(.st (.pr .str (.pr (.int .u64) .unit))), 0, 0⟩),
 (14, ⟨(.st (.pr .str (.pr (.int .u64) .unit))), 0, 0⟩),
 (21, ⟨(.int .i32), 0, 0⟩),
 (22, ⟨(.sl (.st (.pr .str (.pr .str (.pr (.st (.pr (.int .i64) (.pr (.int .i64) (.pr (.int .i64) .unit)))) .unit))))), 29, 56⟩),
 (26, ⟨(.st (.pr (.int .i64) (.pr (.int .i64) (.pr (.int .i64) .unit)))), 0, 0⟩),
 (27, ⟨(.st (.pr (.int .i64) (.pr (.int .i64) (.pr (.int .i64) .unit)))), 0, 0⟩),
 (28, ⟨(.st (.pr .str (.pr .str (.pr (.st (.pr (.int .i64) (.pr (.int .i64) (.pr (.int .i64) .unit)))) .unit)))), 0, 0⟩),
 (29, ⟨(.st (.pr .str (.pr .str (.pr (.st (.pr (.int .i64) (.pr (.int .i64) (.pr (.int .i64) .unit)))) .unit)))), 0, 0⟩),
 (30, ⟨(.int .i64), 0, 0⟩),
 (39, ⟨(.st (.pr (.int .i64) (.pr (.int .i64) .unit))), 0, 0⟩),
 (40, ⟨(.st (.pr (.int .i64) (.pr (.int .i64) .unit))), 0, 0⟩),
 (46, ⟨(.sl .str), 9, 16⟩),
 (68, ⟨(.sl (.int .i64)), 3, 8⟩),
 (89, ⟨(.st (.pr .str (.pr .str .unit))), 9, 2⟩),
 (90, ⟨(.st (.pr (.int .i64) (.pr (.int .i64) .unit))), 3, 2⟩),
 (94, ⟨(.sl (.st (.pr (.int .i64) (.pr (.int .i64) .unit)))), 96, 16⟩),
 (95, ⟨(.st (.pr (.int .i64) (.pr (.int .i64) .unit))), 0, 0⟩),
 (96, ⟨(.st (.pr (.int .i64) (.pr (.int .i64) .unit))), 0, 0⟩),
 (98, ⟨(.eb 111 .unit), 0, 0⟩),
 (101, ⟨(.int .u64), 0, 0⟩),
 (107, ⟨(.int .i64), 0, 0⟩),
 (108, ⟨(.sl (.int .u8)), 5, 1⟩),
 (114, ⟨(.st (.pr (.int .u8) (.pr (.int .u8) (.pr (.int .u8) (.pr (.int .u8) (.pr (.int .u8) (.pr (.int .u8) (.pr (.int .u8) (.pr (.int .u8) (.pr (.int .u8) (.pr (.int .u8) (.pr (.int .u8) (.pr (.int .u8) (.pr (.int .u8) (.pr (.int .u8) (.pr (.int .u8) (.pr (.int .u8) (.pr (.int .u8) (.pr (.int .u8) (.pr (.int .u8) (.pr (.int .u8) (.pr (.int .u8) (.pr (.int .u8) (.pr (.int .u8) (.pr (.int .u8) .unit))))))))))))))))))))))))), 5, 24⟩),
 (115, ⟨(.int .u64), 0, 0⟩),
 (120, ⟨(.int .u32), 0, 0⟩),
 (126, ⟨(.st (.pr .str (.pr .str (.pr (.eb 111 .unit) .unit)))), 0, 0⟩),
 (127, ⟨(.st (.pr .str (.pr .str (.pr (.eb 111 .unit) .unit)))), 0, 0⟩),
 (130, ⟨(.st (.pr (.int .u64) (.pr (.int .u64) (.pr (.int .u64) (.pr (.int .u64) (.pr (.int .u64) (.pr (.int .u64) (.pr (.int .u64) (.pr (.int .u64) (.pr (.int .u64) (.pr (.int .u64) (.pr (.int .u64) (.pr (.int .u64) (.pr (.int .u64) (.pr (.int .u64) (.pr (.int .u64) (.pr (.int .u64) (.pr (.int .u64) (.pr (.int .u64) (.pr (.int .u64) (.pr (.int .u64) .unit))))))))))))))))))))), 115, 20⟩),
 (137, ⟨(.st (.pr .str .unit)), 0, 0⟩),
 (138, ⟨(.st (.pr .str .unit)), 0, 0⟩),
 (140, ⟨(.st (.pr (.int .u8) (.pr (.int .u8) (.pr (.int .u8) (.pr (.int .u8) (.pr (.int .u8) (.pr (.int .u8) (.pr (.int .u8) (.pr (.int .u8) (.pr (.int .u8) (.pr (.int .u8) (.pr (.int .u8) (.pr (.int .u8) (.pr (.int .u8) (.pr (.int .u8) (.pr (.int .u8) (.pr (.int .u8) (.pr (.int .u8) (.pr (.int .u8) (.pr (.int .u8) (.pr (.int .u8) (.pr (.int .u8) (.pr (.int .u8) (.pr (.int .u8) (.pr (.int .u8) (.pr (.int .u8) (.pr (.int .u8) (.pr (.int .u8) (.pr (.int .u8) (.pr (.int .u8) (.pr (.int .u8) (.pr (.int .u8) (.pr (.int .u8) .unit))))))))))))))))))))))))))))))))), 5, 32⟩),
 (149, ⟨(.int .u8), 0, 0⟩),
 (150, ⟨(.int .u8), 0, 0⟩),
 (152, ⟨(.int .i32), 0, 0⟩),
 (153, ⟨(.int .i32), 0, 0⟩)]
theorem Tys4_ok : ∀ id i, Go.Lf.look Tys4 id = some i → Go.Lf.TyOk Go.Proofs.Tryd.prog id i := Go.Lf.tysB_ok (by kernel_rfl)
noncomputable def foliolaw06_twinMCtx : Go.Lf.Ctx := ⟨6, Tys4, [], [], [], [(3, (.mr 29 (.st (.pr .str (.pr .str (.pr (.st (.pr (.int .i64) (.pr (.int .i64) (.pr (.int .i64) .unit)))) .unit))))))]⟩
noncomputable def foliolaw06_twinMCode : Go.Code := (Go.Proofs.Tryd.f16.body).getD .skip
def foliolaw06_twinMAnn : Go.Lf.Ann := .no
noncomputable def foliolaw06_twinM (a0 : List ((List (UInt8)) × ((List (UInt8)) × (((Int) × ((Int) × ((Int) × (Unit)))) × (Unit))))) : Option (List ((List (UInt8)) × ((List (UInt8)) × (((Int) × ((Int) × ((Int) × (Unit)))) × (Unit))))) :=
 ((Go.Lf.app (56 : Nat) ([] : List ((List (UInt8)) × ((List (UInt8)) × (((Int) × ((Int) × ((Int) × (Unit)))) × (Unit))))) a0)).bind fun r1 =>
 some r1
theorem foliolaw06_twinM_eq (a0 : List ((List (UInt8)) × ((List (UInt8)) × (((Int) × ((Int) × ((Int) × (Unit)))) × (Unit))))) : Go.Lf.fnE foliolaw06_twinMCtx foliolaw06_twinMCode foliolaw06_twinMAnn [.val (.sl (.st (.pr .str (.pr .str (.pr (.st (.pr (.int .i64) (.pr (.int .i64) (.pr (.int .i64) .unit)))) .unit)))))] [(.mr 29 (.st (.pr .str (.pr .str (.pr (.st (.pr (.int .i64) (.pr (.int .i64) (.pr (.int .i64) .unit)))) .unit)))))] [.tmp 2] (a0) = foliolaw06_twinM a0 := by kernel_rfl
noncomputable def foliolaw06_twinMEnt : Nat × Go.Lf.Entry := (16, ⟨[.val (.sl (.st (.pr .str (.pr .str (.pr (.st (.pr (.int .i64) (.pr (.int .i64) (.pr (.int .i64) .unit)))) .unit)))))], [(.mr 29 (.st (.pr .str (.pr .str (.pr (.st (.pr (.int .i64) (.pr (.int .i64) (.pr (.int .i64) .unit)))) .unit)))))], fun z => foliolaw06_twinM z⟩)
theorem foliolaw06_twinM_ok : Go.Lf.EntryOk Go.Proofs.Tryd.prog GG 16 foliolaw06_twinMEnt.2 :=
  Go.Lf.fn_ok (c := foliolaw06_twinMCtx) (code := foliolaw06_twinMCode) (an := foliolaw06_twinMAnn) (slots := [.tmp 2]) (fn := Go.Proofs.Tryd.f16) (by kernel_rfl) ⟨Tys4_ok, Go.Lf.FnsOk.look .nil⟩ (by kernel_rfl) (by kernel_rfl) (by kernel_rfl) (by kernel_rfl) (by kernel_rfl) (Nat.le_of_ble_eq_true rfl) (by simp [Go.Lf.Ty.top]) (by simp [Go.Lf.Ty.top]) fun z r h => (foliolaw06_twinM_eq z).trans h
noncomputable def foliolaw06_StyleOrderCtx : Go.Lf.Ctx := ⟨182, Tys4, [foliolaw06_awakeEnt, foliolaw06_twinMEnt, folioref06_CheckEnt, foliolaw06_sameEnt, style_WholeEnt], [14, 110], [], [(14, (.rw 29 (.st (.pr .str (.pr .str (.pr (.st (.pr (.int .i64) (.pr (.int .i64) (.pr (.int .i64) .unit)))) .unit)))))), (39, (.mr 29 (.st (.pr .str (.pr .str (.pr (.st (.pr (.int .i64) (.pr (.int .i64) (.pr (.int .i64) .unit)))) .unit)))))), (110, (.rw 29 (.st (.pr .str (.pr .str (.pr (.st (.pr (.int .i64) (.pr (.int .i64) (.pr (.int .i64) .unit)))) .unit)))))), (2000017, (.dead 9 .unit))]⟩
noncomputable def foliolaw06_StyleOrderCode : Go.Code := (Go.Proofs.Tryd.f10.body).getD .skip
def foliolaw06_StyleOrderAnn : Go.Lf.Ann := (.seq .no (.seq .no (.seq (.seq .no (.seq (.join (.one .nrm ⟨[0, 1, 2], [], [(37, .bool)], []⟩) .no) .no)) (.seq .no (.seq (.seq .no (.loop ⟨[0, 1, 2], [], [(10, (.int .i64)), (9, (.mr 29 (.st (.pr .str (.pr .str (.pr (.st (.pr (.int .i64) (.pr (.int .i64) (.pr (.int .i64) .unit)))) .unit))))))], []⟩ (.one (.ext 0) ⟨[0, 2], [], [(9, (.mr 29 (.st (.pr .str (.pr .str (.pr (.st (.pr (.int .i64) (.pr (.int .i64) (.pr (.int .i64) .unit)))) .unit))))))], []⟩) (.seq .no (.seq (.seq (.draw 19) (.soup 12)) .no)))) (.seq .no (.seq .no (.seq .no (.seq (.seq .no (.loop ⟨[0, 13], [], [(16, (.int .i64)), (14, (.rw 29 (.st (.pr .str (.pr .str (.pr (.st (.pr (.int .i64) (.pr (.int .i64) (.pr (.int .i64) .unit)))) .unit)))))), (15, .bool), (9, (.mr 29 (.st (.pr .str (.pr .str (.pr (.st (.pr (.int .i64) (.pr (.int .i64) (.pr (.int .i64) .unit)))) .unit))))))], []⟩ (.one (.ext 2) ⟨[0, 13], [], [(14, (.rw 29 (.st (.pr .str (.pr .str (.pr (.st (.pr (.int .i64) (.pr (.int .i64) (.pr (.int .i64) .unit)))) .unit)))))), (15, .bool), (9, (.mr 29 (.st (.pr .str (.pr .str (.pr (.st (.pr (.int .i64) (.pr (.int .i64) (.pr (.int .i64) .unit)))) .unit))))))], []⟩) (.seq .no (.seq (.join (.one .nrm ⟨[0, 13, 16], [], [(14, (.rw 29 (.st (.pr .str (.pr .str (.pr (.st (.pr (.int .i64) (.pr (.int .i64) (.pr (.int .i64) .unit)))) .unit)))))), (15, .bool), (9, (.mr 29 (.st (.pr .str (.pr .str (.pr (.st (.pr (.int .i64) (.pr (.int .i64) (.pr (.int .i64) .unit)))) .unit))))))], []⟩) (.seq (.join (.one .nrm ⟨[0, 13, 16], [], [(15, .bool), (9, (.mr 29 (.st (.pr .str (.pr .str (.pr (.st (.pr (.int .i64) (.pr (.int .i64) (.pr (.int .i64) .unit)))) .unit)))))), (14, (.rw 29 (.st (.pr .str (.pr .str (.pr (.st (.pr (.int .i64) (.pr (.int .i64) (.pr (.int .i64) .unit)))) .unit))))))], []⟩) (.draw 15)) .no)) .no)))) (.seq (.seq (.opn 9 .no) (.loop ⟨[0, 15, 13, 9], [], [(17, (.int .i64)), (14, (.rw 29 (.st (.pr .str (.pr .str (.pr (.st (.pr (.int .i64) (.pr (.int .i64) (.pr (.int .i64) .unit)))) .unit))))))], []⟩ (.more (.ext 4) ⟨[], [], [], []⟩ (.one .ret ⟨[], [], [(6, .bool)], []⟩)) (.seq .no (.seq (.join (.more .ret ⟨[], [], [(6, .bool)], []⟩ (.one .nrm ⟨[0, 15, 13, 9, 17], [], [(14, (.rw 29 (.st (.pr .str (.pr .str (.pr (.st (.pr (.int .i64) (.pr (.int .i64) (.pr (.int .i64) .unit)))) .unit))))))], []⟩)) (.seq (.soup 12) (.seq (.soup 12) (.seq (.seq (.join (.one .nrm ⟨[0, 15, 13, 9, 17], [(18, 18, [], 0)], [(156, .bool), (14, (.rw 29 (.st (.pr .str (.pr .str (.pr (.st (.pr (.int .i64) (.pr (.int .i64) (.pr (.int .i64) .unit)))) .unit))))))], [(18, 27, (.st (.pr (.int .i64) (.pr (.int .i64) (.pr (.int .i64) .unit)))))]⟩) .no) .no) (.seq (.seq (.join (.one .nrm ⟨[0, 15, 13, 9, 17], [(18, 18, [], 0)], [(162, .bool), (14, (.rw 29 (.st (.pr .str (.pr .str (.pr (.st (.pr (.int .i64) (.pr (.int .i64) (.pr (.int .i64) .unit)))) .unit))))))], [(18, 27, (.st (.pr (.int .i64) (.pr (.int .i64) (.pr (.int .i64) .unit)))))]⟩) .no) .no) (.seq (.soup 12) (.seq (.join (.one .nrm ⟨[0, 15, 13, 9, 17], [], [(181, .bool), (14, (.rw 29 (.st (.pr .str (.pr .str (.pr (.st (.pr (.int .i64) (.pr (.int .i64) (.pr (.int .i64) .unit)))) .unit))))))], []⟩) .no) .no))))))) .no)))) .no))))))))))
noncomputable def foliolaw06_StyleOrder (a0 : List ((List (UInt8)) × ((List (UInt8)) × (((Int) × ((Int) × ((Int) × (Unit)))) × (Unit))))) (a1 : List (Int)) (a2 : Int) : Option (Bool) :=
 (Go.Fn.foliolaw06_awake).bind fun r1 =>
 bif (!r1) then some false
 else ((Go.Fn.folioref06_Check a0)).bind fun r2 =>
 (bif (!(decide ((r2.2 : Int) ≠ (0 : Int)))) then some (decide (((((List.length a0) : Nat) : Int) : Int) = (0 : Int)))
   else some true).bind fun r3 =>
 bif r3 then some true
 else ((Go.Fn.foliolaw06_twinM a0)).bind fun r4 =>
 (Go.Lf.loopC (σ := (Int) × (List ((List (UInt8)) × ((List (UInt8)) × (((Int) × ((Int) × ((Int) × (Unit)))) × (Unit)))))) (κ := List ((List (UInt8)) × ((List (UInt8)) × (((Int) × ((Int) × ((Int) × (Unit)))) × (Unit))))) (fun z5 =>
     bif (decide (z5.1 < (((List.length a1) : Nat) : Int))) then ((Go.Lf.nz (((List.length a0) : Nat) : Int) (Int.tmod z5.1 (((List.length a0) : Nat) : Int)))).bind fun r6 =>
     ((Go.Lf.idx a1 z5.1)).bind fun r7 =>
     ((Go.Lf.nz (((List.length a0) : Nat) : Int) (Int.tmod r7 (((List.length a0) : Nat) : Int)))).bind fun r8 =>
     ((Go.Lf.nz (((List.length a0) : Nat) : Int) (Int.tmod (Go.IntKind.wrap .i64 (r8 + (((List.length a0) : Nat) : Int))) (((List.length a0) : Nat) : Int)))).bind fun r9 =>
     ((Go.Lf.chk (List.length z5.2) r9)).bind fun r10 =>
     ((Go.Lf.nth z5.2 r10)).bind fun r11 =>
     ((Go.Lf.chk (List.length z5.2) r6)).bind fun r12 =>
     ((Go.Lf.nth z5.2 r12)).bind fun r13 =>
     ((Go.Lf.chk (List.length z5.2) r6)).bind fun r14 =>
     ((Go.Lf.nth z5.2 r14)).bind fun r15 =>
     ((Go.Lf.chk (List.length (List.set z5.2 r14 r11)) r9)).bind fun r16 =>
     ((Go.Lf.nth (List.set z5.2 r14 r11) r16)).bind fun r17 =>
     some (.inl ((Go.IntKind.wrap .i64 (z5.1 + (1 : Int))), (List.set (List.set z5.2 r14 r11) r16 r13)))
     else some (.inr z5.2)) ((0 : Int), r4) : Option (List ((List (UInt8)) × ((List (UInt8)) × (((Int) × ((Int) × ((Int) × (Unit)))) × (Unit)))))).bind fun r18 =>
 ((Go.Lf.nz (((List.length a0) : Nat) : Int) (Int.tmod a2 (((List.length a0) : Nat) : Int)))).bind fun r19 =>
 ((Go.Lf.nz (((List.length a0) : Nat) : Int) (Int.tmod (Go.IntKind.wrap .i64 (r19 + (((List.length a0) : Nat) : Int))) (((List.length a0) : Nat) : Int)))).bind fun r20 =>
 (Go.Lf.loopC (σ := (Int) × ((List ((List (UInt8)) × ((List (UInt8)) × (((Int) × ((Int) × ((Int) × (Unit)))) × (Unit))))) × ((Bool) × (List ((List (UInt8)) × ((List (UInt8)) × (((Int) × ((Int) × ((Int) × (Unit)))) × (Unit)))))))) (κ := (List ((List (UInt8)) × ((List (UInt8)) × (((Int) × ((Int) × ((Int) × (Unit)))) × (Unit))))) × ((Bool) × (List ((List (UInt8)) × ((List (UInt8)) × (((Int) × ((Int) × ((Int) × (Unit)))) × (Unit))))))) (fun z21 =>
     bif (decide (z21.1 < (((List.length a0) : Nat) : Int))) then ((bif (!z21.2.2.1) then ((Go.Lf.idx a0 z21.1)).bind fun r22 =>
         ((Go.Lf.idx a0 r20)).bind fun r23 =>
         some ((decide ((r22.2.1 : List (UInt8)) = r23.1)), (z21.2.2.2, z21.2.1))
         else some (true, (z21.2.2.2, z21.2.1))).bind fun r24 =>
       bif (decide ((z21.1 : Int) ≠ r20)) then ((Go.Lf.idx a0 z21.1)).bind fun r25 =>
       ((Go.Lf.app (56 : Nat) r24.2.2 (r25 :: ([] : List ((List (UInt8)) × ((List (UInt8)) × (((Int) × ((Int) × ((Int) × (Unit)))) × (Unit)))))))).bind fun r26 =>
       some (r26, (r24.1, r24.2.1))
       else some (r24.2.2, (r24.1, r24.2.1))).bind fun r27 =>
     some (.inl ((Go.IntKind.wrap .i64 (z21.1 + (1 : Int))), (r27.1, (r27.2.1, r27.2.2))))
     else some (.inr (z21.2.1, (z21.2.2.1, z21.2.2.2)))) ((0 : Int), (([] : List ((List (UInt8)) × ((List (UInt8)) × (((Int) × ((Int) × ((Int) × (Unit)))) × (Unit))))), (false, r18))) : Option ((List ((List (UInt8)) × ((List (UInt8)) × (((Int) × ((Int) × ((Int) × (Unit)))) × (Unit))))) × ((Bool) × (List ((List (UInt8)) × ((List (UInt8)) × (((Int) × ((Int) × ((Int) × (Unit)))) × (Unit)))))))).bind fun r28 =>
 (Go.Lf.loopC (σ := (Int) × (List ((List (UInt8)) × ((List (UInt8)) × (((Int) × ((Int) × ((Int) × (Unit)))) × (Unit)))))) (κ := (Unit) ⊕ (Bool)) (fun z29 =>
     bif (decide (z29.1 < (((List.length a0) : Nat) : Int))) then (((Go.Fn.foliolaw06_twinM a0)).bind fun r30 =>
       ((Go.Lf.idx a0 z29.1)).bind fun r31 =>
       ((Go.Fn.style_Whole r30 r31.1)).bind fun r32 =>
       ((Go.Fn.foliolaw06_twinM r28.2.2)).bind fun r33 =>
       ((Go.Lf.idx a0 z29.1)).bind fun r34 =>
       ((Go.Fn.style_Whole r33 r34.1)).bind fun r35 =>
       (bif (!(decide ((r32.2 : Int) ≠ (0 : Int)))) then bif (!(decide ((r35.2 : Int) ≠ (0 : Int)))) then ((Go.Fn.foliolaw06_same r32.1 r35.1)).bind fun r36 =>
         some ((!r36), (z29.2, r32.1))
         else some (true, (z29.2, r32.1))
         else some (true, (z29.2, r32.1))).bind fun r37 =>
       bif r37.1 then some (.inl false)
       else (bif (!(decide ((z29.1 : Int) = r20))) then some (r28.2.1, (r37.2.1, r37.2.2))
         else some (true, (r37.2.1, r37.2.2))).bind fun r38 =>
       bif r38.1 then some (.inr r38.2.1)
       else ((Go.Fn.foliolaw06_twinM r38.2.1)).bind fun r39 =>
       ((Go.Lf.idx a0 z29.1)).bind fun r40 =>
       ((Go.Fn.style_Whole r39 r40.1)).bind fun r41 =>
       (bif (!(decide ((r41.2 : Int) ≠ (0 : Int)))) then ((Go.Fn.foliolaw06_same r38.2.2 r41.1)).bind fun r42 =>
         some ((!r42), r38.2.1)
         else some (true, r38.2.1)).bind fun r43 =>
       bif r43.1 then some (.inl false)
       else some (.inr r43.2) : Option ((Bool) ⊕ (List ((List (UInt8)) × ((List (UInt8)) × (((Int) × ((Int) × ((Int) × (Unit)))) × (Unit))))))).bind fun r44 =>
     Go.Lf.onSum r44 (fun a45 =>
     some (.inr (.inr a45))) (fun b46 =>
     some (.inl ((Go.IntKind.wrap .i64 (z29.1 + (1 : Int))), b46)))
     else some (.inr (.inl ()))) ((0 : Int), r28.1) : Option ((Unit) ⊕ (Bool))).bind fun r47 =>
 Go.Lf.onSum r47 (fun a48 =>
 some true) (fun b49 =>
 some b49)
theorem foliolaw06_StyleOrder_eq (a0 : List ((List (UInt8)) × ((List (UInt8)) × (((Int) × ((Int) × ((Int) × (Unit)))) × (Unit))))) (a1 : List (Int)) (a2 : Int) : Go.Lf.fnE foliolaw06_StyleOrderCtx foliolaw06_StyleOrderCode foliolaw06_StyleOrderAnn [.val (.sl (.st (.pr .str (.pr .str (.pr (.st (.pr (.int .i64) (.pr (.int .i64) (.pr (.int .i64) .unit)))) .unit))))), .val (.sl (.int .i64)), .val (.int .i64)] [.bool] [.tmp 6] (a0, a1, a2) = foliolaw06_StyleOrder a0 a1 a2 := by kernel_rfl
noncomputable def foliolaw06_StyleOrderEnt : Nat × Go.Lf.Entry := (10, ⟨[.val (.sl (.st (.pr .str (.pr .str (.pr (.st (.pr (.int .i64) (.pr (.int .i64) (.pr (.int .i64) .unit)))) .unit))))), .val (.sl (.int .i64)), .val (.int .i64)], [.bool], fun z => foliolaw06_StyleOrder z.1 z.2.1 z.2.2⟩)
theorem foliolaw06_StyleOrder_ok : Go.Lf.EntryOk Go.Proofs.Tryd.prog GG 10 foliolaw06_StyleOrderEnt.2 :=
  Go.Lf.fn_ok (c := foliolaw06_StyleOrderCtx) (code := foliolaw06_StyleOrderCode) (an := foliolaw06_StyleOrderAnn) (slots := [.tmp 6]) (fn := Go.Proofs.Tryd.f10) (by kernel_rfl) ⟨Tys4_ok, Go.Lf.FnsOk.look (.con foliolaw06_awake_ok (.con foliolaw06_twinM_ok (.con folioref06_Check_ok (.con foliolaw06_same_ok (.con style_Whole_ok .nil)))))⟩ (by kernel_rfl) (by kernel_rfl) (by kernel_rfl) (by kernel_rfl) (by kernel_rfl) (Nat.le_of_ble_eq_true rfl) (by simp [Go.Lf.Ty.top]) (by simp [Go.Lf.Ty.top]) fun z r h => (foliolaw06_StyleOrder_eq z.1 z.2.1 z.2.2).trans h
noncomputable def style_BaseMCtx : Go.Lf.Ctx := ⟨27, Tys4, [], [], [], [(3, (.mr 29 (.st (.pr .str (.pr .str (.pr (.st (.pr (.int .i64) (.pr (.int .i64) (.pr (.int .i64) .unit)))) .unit))))))]⟩
noncomputable def style_BaseMCode : Go.Code := (Go.Proofs.Tryd.f11.body).getD .skip
def style_BaseMAnn : Go.Lf.Ann := (.seq .no (.seq .no (.seq .no (.seq .no (.seq (.seq .no (.loop ⟨[2, 1, 8], [], [(9, (.int .i64)), (3, (.mr 29 (.st (.pr .str (.pr .str (.pr (.st (.pr (.int .i64) (.pr (.int .i64) (.pr (.int .i64) .unit)))) .unit))))))], []⟩ (.one (.ext 0) ⟨[], [], [(3, (.mr 29 (.st (.pr .str (.pr .str (.pr (.st (.pr (.int .i64) (.pr (.int .i64) (.pr (.int .i64) .unit)))) .unit))))))], []⟩) (.seq .no (.seq .no (.seq (.seq .no (.draw 11)) .no))))) .no)))))
noncomputable def style_BaseM  : Option (List ((List (UInt8)) × ((List (UInt8)) × (((Int) × ((Int) × ((Int) × (Unit)))) × (Unit))))) :=
 (Go.Lf.loopC (σ := (Int) × (List ((List (UInt8)) × ((List (UInt8)) × (((Int) × ((Int) × ((Int) × (Unit)))) × (Unit)))))) (κ := List ((List (UInt8)) × ((List (UInt8)) × (((Int) × ((Int) × ((Int) × (Unit)))) × (Unit))))) (fun z1 =>
     bif (decide (z1.1 < (((List.length (((98 : UInt8) :: ([] : List (UInt8))) :: (((105 : UInt8) :: ([] : List (UInt8))) :: (((117 : UInt8) :: ([] : List (UInt8))) :: (((115 : UInt8) :: ([] : List (UInt8))) :: (((109 : UInt8) :: ([] : List (UInt8))) :: (((104 : UInt8) :: ([] : List (UInt8))) :: ([] : List (List (UInt8)))))))))) : Nat) : Int))) then ((Go.Lf.idx (((98 : UInt8) :: ([] : List (UInt8))) :: (((105 : UInt8) :: ([] : List (UInt8))) :: (((117 : UInt8) :: ([] : List (UInt8))) :: (((115 : UInt8) :: ([] : List (UInt8))) :: (((109 : UInt8) :: ([] : List (UInt8))) :: (((104 : UInt8) :: ([] : List (UInt8))) :: ([] : List (List (UInt8))))))))) z1.1)).bind fun r2 =>
     ((Go.Lf.idx ((1 : Int) :: ((2 : Int) :: ((4 : Int) :: ((8 : Int) :: ((16 : Int) :: ((5 : Int) :: ([] : List (Int)))))))) z1.1)).bind fun r3 =>
     ((Go.Lf.app (56 : Nat) z1.2 ((r2, (([] : List (UInt8)), ((r3, ((0 : Int), ((-(1 : Int)), ()))), ()))) :: ([] : List ((List (UInt8)) × ((List (UInt8)) × (((Int) × ((Int) × ((Int) × (Unit)))) × (Unit)))))))).bind fun r4 =>
     some (.inl ((Go.IntKind.wrap .i64 (z1.1 + (1 : Int))), r4))
     else some (.inr z1.2)) ((0 : Int), ([] : List ((List (UInt8)) × ((List (UInt8)) × (((Int) × ((Int) × ((Int) × (Unit)))) × (Unit)))))) : Option (List ((List (UInt8)) × ((List (UInt8)) × (((Int) × ((Int) × ((Int) × (Unit)))) × (Unit)))))).bind fun r5 =>
 some r5
theorem style_BaseM_eq  : Go.Lf.fnE style_BaseMCtx style_BaseMCode style_BaseMAnn [] [(.mr 29 (.st (.pr .str (.pr .str (.pr (.st (.pr (.int .i64) (.pr (.int .i64) (.pr (.int .i64) .unit)))) .unit)))))] [.tmp 0] () = style_BaseM  := by kernel_rfl
noncomputable def style_BaseMEnt : Nat × Go.Lf.Entry := (11, ⟨[], [(.mr 29 (.st (.pr .str (.pr .str (.pr (.st (.pr (.int .i64) (.pr (.int .i64) (.pr (.int .i64) .unit)))) .unit)))))], fun _ => style_BaseM ⟩)
theorem style_BaseM_ok : Go.Lf.EntryOk Go.Proofs.Tryd.prog GG 11 style_BaseMEnt.2 :=
  Go.Lf.fn_ok (c := style_BaseMCtx) (code := style_BaseMCode) (an := style_BaseMAnn) (slots := [.tmp 0]) (fn := Go.Proofs.Tryd.f11) (by kernel_rfl) ⟨Tys4_ok, Go.Lf.FnsOk.look .nil⟩ (by kernel_rfl) (by kernel_rfl) (by kernel_rfl) (by kernel_rfl) (by kernel_rfl) (Nat.le_of_ble_eq_true rfl) (by simp [Go.Lf.Ty.top]) (by simp [Go.Lf.Ty.top]) fun z r h => (style_BaseM_eq ).trans h
noncomputable def foliolaw06_StyleSheetsCtx : Go.Lf.Ctx := ⟨97, Tys4, [style_BaseMEnt, folioref06_BaseEnt, foliolaw06_awakeEnt, foliolaw06_stylesEnt, style_CheckEnt, foliolaw06_twinMEnt, folioref06_CheckEnt, style_FindEnt, folioref06_FindEnt], [], [], [(14, (.mr 29 (.st (.pr .str (.pr .str (.pr (.st (.pr (.int .i64) (.pr (.int .i64) (.pr (.int .i64) .unit)))) .unit))))))]⟩
noncomputable def foliolaw06_StyleSheetsCode : Go.Code := (Go.Proofs.Tryd.f3.body).getD .skip
def foliolaw06_StyleSheetsAnn : Go.Lf.Ann := (.seq .no (.seq .no (.seq .no (.seq (.seq (.join (.one .nrm ⟨[6, 1, 0], [], [(24, .bool), (5, (.mr 29 (.st (.pr .str (.pr .str (.pr (.st (.pr (.int .i64) (.pr (.int .i64) (.pr (.int .i64) .unit)))) .unit))))))], []⟩) .no) .no) (.seq (.seq .no (.loop ⟨[6, 1, 0], [], [(7, (.int .i64)), (5, (.mr 29 (.st (.pr .str (.pr .str (.pr (.st (.pr (.int .i64) (.pr (.int .i64) (.pr (.int .i64) .unit)))) .unit))))))], []⟩ (.more (.ext 0) ⟨[1, 0], [], [], []⟩ (.one .ret ⟨[], [], [(4, .bool)], []⟩)) (.seq .no (.seq (.seq (.seq (.draw 10) .no) .no) .no)))) (.seq .no (.seq .no (.seq (.seq (.join (.one .nrm ⟨[1, 0], [], [(75, .bool)], []⟩) .no) .no) (.seq .no (.seq .no (.seq (.join (.one .nrm ⟨[], [], [(4, .bool)], []⟩) .no) .no)))))))))))
noncomputable def foliolaw06_StyleSheets (a0 : List ((List (UInt8)) × ((List (UInt8)) × (((Int) × ((Int) × ((Int) × (Unit)))) × (Unit))))) (a1 : List (UInt8)) : Option (Bool) :=
 (Go.Fn.style_BaseM).bind fun r1 =>
 (Go.Fn.folioref06_Base).bind fun r2 =>
 (bif (!(decide (((((List.length r1) : Nat) : Int) : Int) ≠ (((List.length r2) : Nat) : Int)))) then (Go.Fn.foliolaw06_awake).bind fun r3 =>
   some ((!r3), r1)
   else some (true, r1)).bind fun r4 =>
 bif r4.1 then some false
 else (Go.Lf.loopC (σ := (Int) × (List ((List (UInt8)) × ((List (UInt8)) × (((Int) × ((Int) × ((Int) × (Unit)))) × (Unit)))))) (κ := (Unit) ⊕ (Bool)) (fun z5 =>
     bif (decide (z5.1 < (((List.length z5.2) : Nat) : Int))) then ((Go.Lf.chk (List.length z5.2) z5.1)).bind fun r6 =>
     ((Go.Lf.nth z5.2 r6)).bind fun r7 =>
     ((Go.Lf.idx r2 z5.1)).bind fun r8 =>
     ((Go.Fn.foliolaw06_styles r7 r8)).bind fun r9 =>
     bif (!r9) then some (.inr (.inr false))
     else ((Go.Lf.chk (List.length z5.2) z5.1)).bind fun r10 =>
     ((Go.Lf.nth z5.2 r10)).bind fun r11 =>
     some (.inl ((Go.IntKind.wrap .i64 (z5.1 + (1 : Int))), (List.set z5.2 r10 (((120 : UInt8) :: ([] : List (UInt8))), r11.2))))
     else some (.inr (.inl ()))) ((0 : Int), r4.2) : Option ((Unit) ⊕ (Bool))).bind fun r12 =>
 Go.Lf.onSum r12 (fun a13 =>
 ((Go.Fn.foliolaw06_twinM a0)).bind fun r14 =>
 ((Go.Fn.style_Check r14)).bind fun r15 =>
 ((Go.Fn.folioref06_Check a0)).bind fun r16 =>
 (bif (!(decide ((r15.1 : Int) ≠ r16.1))) then bif (!(decide ((r15.2 : Int) ≠ r16.2))) then (Go.Fn.style_BaseM).bind fun r17 =>
   bif (!(decide (((((List.length r17) : Nat) : Int) : Int) ≠ (6 : Int)))) then (Go.Fn.style_BaseM).bind fun r18 =>
   ((Go.Lf.idx r18 (0 : Int))).bind fun r19 =>
   some (decide ((r19.1 : List (UInt8)) ≠ ((98 : UInt8) :: ([] : List (UInt8)))))
   else some true
   else some true
   else some true).bind fun r20 =>
 bif r20 then some false
 else ((Go.Fn.foliolaw06_twinM a0)).bind fun r21 =>
 ((Go.Fn.style_Find r21 a1)).bind fun r22 =>
 ((Go.Fn.folioref06_Find a0 a1)).bind fun r23 =>
 (bif (decide ((r22.1 : Int) = r23.1)) then some (decide ((r22.2 : Bool) = r23.2))
   else some false).bind fun r24 =>
 some r24) (fun b25 =>
 some b25)
theorem foliolaw06_StyleSheets_eq (a0 : List ((List (UInt8)) × ((List (UInt8)) × (((Int) × ((Int) × ((Int) × (Unit)))) × (Unit))))) (a1 : List (UInt8)) : Go.Lf.fnE foliolaw06_StyleSheetsCtx foliolaw06_StyleSheetsCode foliolaw06_StyleSheetsAnn [.val (.sl (.st (.pr .str (.pr .str (.pr (.st (.pr (.int .i64) (.pr (.int .i64) (.pr (.int .i64) .unit)))) .unit))))), .val .str] [.bool] [.tmp 4] (a0, a1) = foliolaw06_StyleSheets a0 a1 := by kernel_rfl
noncomputable def foliolaw06_StyleSheetsEnt : Nat × Go.Lf.Entry := (3, ⟨[.val (.sl (.st (.pr .str (.pr .str (.pr (.st (.pr (.int .i64) (.pr (.int .i64) (.pr (.int .i64) .unit)))) .unit))))), .val .str], [.bool], fun z => foliolaw06_StyleSheets z.1 z.2⟩)
theorem foliolaw06_StyleSheets_ok : Go.Lf.EntryOk Go.Proofs.Tryd.prog GG 3 foliolaw06_StyleSheetsEnt.2 :=
  Go.Lf.fn_ok (c := foliolaw06_StyleSheetsCtx) (code := foliolaw06_StyleSheetsCode) (an := foliolaw06_StyleSheetsAnn) (slots := [.tmp 4]) (fn := Go.Proofs.Tryd.f3) (by kernel_rfl) ⟨Tys4_ok, Go.Lf.FnsOk.look (.con style_BaseM_ok (.con folioref06_Base_ok (.con foliolaw06_awake_ok (.con foliolaw06_styles_ok (.con style_Check_ok (.con foliolaw06_twinM_ok (.con folioref06_Check_ok (.con style_Find_ok (.con folioref06_Find_ok .nil)))))))))⟩ (by kernel_rfl) (by kernel_rfl) (by kernel_rfl) (by kernel_rfl) (by kernel_rfl) (Nat.le_of_ble_eq_true rfl) (by simp [Go.Lf.Ty.top]) (by simp [Go.Lf.Ty.top]) fun z r h => (foliolaw06_StyleSheets_eq z.1 z.2).trans h
end Go.Fn
/- Chapter 6, plainly: the base, and whether sheets may be. -/
namespace Go.Fn
open Go Go.Lf
set_option maxRecDepth 10000
theorem twinM_same (l : List Sty) (h : l.length * 56 ≤ 140737488355328) : foliolaw06_twinM l = some l := by
  unfold foliolaw06_twinM
  rw [app_of (by simp only [List.length_nil]; omega)]
  rfl
theorem bind_at {α β : Type} {x : Option α} {y : α} {f : α → Option β} (h : x = some y) : x.bind f = f y := by rw [h]; rfl
theorem baseM_eq : style_BaseM = some BASE := by
  unfold style_BaseM
  refine (bind_at (y := BASE) (Le.loop (n := 10) (fun _ => Le.refl) _ ?_)).trans rfl
  kernel_rfl
theorem sheets_loop : (Go.Lf.loopC (σ := (Int) × (List Sty)) (κ := (Unit) ⊕ (Bool)) (fun z5 =>
     bif (decide (z5.1 < (((List.length z5.2) : Nat) : Int))) then ((Go.Lf.chk (List.length z5.2) z5.1)).bind fun r6 =>
     ((Go.Lf.nth z5.2 r6)).bind fun r7 =>
     ((Go.Lf.idx BASE z5.1)).bind fun r8 =>
     ((Go.Fn.foliolaw06_styles r7 r8)).bind fun r9 =>
     bif (!r9) then some (.inr (.inr false))
     else ((Go.Lf.chk (List.length z5.2) z5.1)).bind fun r10 =>
     ((Go.Lf.nth z5.2 r10)).bind fun r11 =>
     some (.inl ((Go.IntKind.wrap .i64 (z5.1 + (1 : Int))), (List.set z5.2 r10 (((120 : UInt8) :: ([] : List (UInt8))), r11.2))))
     else some (.inr (.inl ()))) ((0 : Int), BASE) : Option ((Unit) ⊕ (Bool))) = some (.inl ()) := Le.loop (n := 10) (fun _ => Le.refl) _ (by kernel_rfl)
theorem sheets_law (l : List Sty) (n : Bs) (h : l.length * 56 ≤ lim) (ha : ∀ s ∈ l, s.1.length ≤ lim ∧ s.2.1.length ≤ lim ∧ Fits s.2.2.1.1 ∧ Fits s.2.2.1.2.1) : foliolaw06_StyleSheets l n = some true := by
  have hF := fine_all h ha
  have hf : Fine l := ⟨by have := hF.1; simp only [List.length_append] at this; omega, ha⟩
  have hl : l.length < 9223372036854775807 := by have := hf.1; omega
  have h56 : l.length * 56 ≤ 140737488355328 := by unfold lim at h; omega
  obtain ⟨p, c, hc, _⟩ := scheck_eq l hf
  have hi : idx BASE 0 = some ([98], [], (1, 0, -1, ()), ()) := rfl
  have hb : (((BASE.length : Nat) : Int) ≠ ((BASE.length : Nat) : Int)) = False := by simp
  have h6 : (((BASE.length : Nat) : Int) ≠ 6) = False := by simp [BASE]
  unfold foliolaw06_StyleSheets
  rw [baseM_eq, rbase_eq]
  simp only [Option.bind_some, hb, decide_false, Bool.not_false, cond_true, awake, Bool.not_true, cond_false]
  rw [sheets_loop]
  simp only [Option.bind_some, onSum, twinM_same l h56, check_same l hf, hc, ne_eq, not_true_eq_false, decide_false, Bool.not_false, cond_true, h6, hi, sfind_eq l n hl, rfind_eq l n hl, decide_true]
  simp [BASE]
end Go.Fn
/- Chapter 6, plainly: a sheet that may be, said without its order. -/
namespace Go.Fn
open Go Go.Lf

def CondAt (l : List Sty) (i : Nat) (hi : i < l.length) : Prop := okName l[i].1 = true ∧ (∀ j, fnd l l[i].1 = some j → ¬ j < i) ∧ chgS l[i].2.2.1 = 0
def ChainAt (l : List Sty) (i : Nat) (hi : i < l.length) : Prop := l[i].2.1 = [] ∨ ((∃ j, fnd l l[i].2.1 = some j) ∧ endsS l 8 i = true)
def Conds (l : List Sty) : Prop := l.length ≤ 64 ∧ (∀ i (hi : i < l.length), CondAt l i hi) ∧ ∀ i (hi : i < l.length), ChainAt l i hi
theorem check_iff (l : List Sty) (hf : Fine l) : (Conds l ∧ folioref06_Check l = some (0, 0)) ∨ (¬ Conds l ∧ ∃ p c, folioref06_Check l = some (p, c) ∧ c ≠ 0) := by
  obtain ⟨hlen, hall⟩ := hf
  unfold folioref06_Check
  by_cases h64 : (64 : Int) < ((l.length : Nat) : Int)
  · simp only [h64, decide_true, cond_true]
    exact .inr ⟨fun h => by have := h.1; omega, _, _, rfl, by decide⟩
  · simp only [h64, decide_false, cond_false]
    have hl : l.length < 9223372036854775807 := by omega
    have L1 := loop_all (B := fun z1 =>
     bif (decide (z1 < (((List.length l) : Nat) : Int))) then ((Go.Lf.idx l z1)).bind fun r2 =>
     ((Go.Fn.folioref06_Name r2.1)).bind fun r3 =>
     bif (!r3) then some (.inr (.inr (z1, (60 : Int))))
     else ((Go.Lf.idx l z1)).bind fun r4 =>
     ((Go.Fn.folioref06_Find l r4.1)).bind fun r5 =>
     bif (decide (r5.1 < z1)) then some (.inr (.inr (z1, (61 : Int))))
     else ((Go.Lf.idx l z1)).bind fun r6 =>
     ((Go.Fn.folioref06_own r6.2.2.1)).bind fun r7 =>
     bif (decide ((r7 : Int) ≠ (0 : Int))) then some (.inr (.inr (z1, r7)))
     else some (.inl (Go.IntKind.wrap .i64 (z1 + (1 : Int))))
     else some (.inr (.inl ()))) l.length (fun i => ∀ hi : i < l.length, CondAt l i hi) (fun k : Int × Int => k.2 ≠ 0 ∧ ¬ Conds l) (fun i hi => by
        have hg : idx l (i : Int) = some l[i] := by rw [idx_nat, List.getElem?_eq_getElem hi]
        have e1 : (i : Int) < ((l.length : Nat) : Int) := by omega
        obtain ⟨a1, a2, a3, a4⟩ := hall l[i] (List.getElem_mem hi)
        unfold lim at a1 a2
        obtain ⟨j, hj1, hj2⟩ := fnd_self l i hi
        simp only [e1, decide_true, cond_true, hg, Option.bind_some, rname_eq l[i].1 (by omega), rfind_eq l _ hl, own_eq, hj1]
        rw [wrapS (by omega)]
        cases hk : okName l[i].1 with
        | false => exact .inr ⟨_, rfl, (show (60 : Int) ≠ 0 by decide), fun h => by have := (h.2.1 i hi).1; rw [hk] at this; cases this⟩
        | true =>
          simp only [Bool.not_true, cond_false]
          by_cases hji : j < i
          · have h2 : (j : Int) < (i : Int) := by omega
            simp only [h2, decide_true, cond_true]
            exact .inr ⟨_, rfl, (show (61 : Int) ≠ 0 by decide), fun h => (h.2.1 i hi).2.1 j hj1 hji⟩
          · have h2 : ¬ (j : Int) < (i : Int) := by omega
            simp only [h2, decide_false, cond_false]
            by_cases hc : chgS l[i].2.2.1 = 0
            · simp only [hc, ne_eq, not_true_eq_false, decide_false, cond_false]
              exact .inl ⟨trivial, fun _ => ⟨hk, fun j' hj' => by rw [hj1] at hj'; injection hj' with hj'; omega, hc⟩⟩
            · simp only [hc, ne_eq, not_false_eq_true, decide_true, cond_true]
              exact .inr ⟨_, rfl, hc, fun h => hc (h.2.1 i hi).2.2⟩) (by simp) l.length 0 (by omega)
    rcases L1 with ⟨e, hP⟩ | ⟨k2, e, hq⟩
    · have e : loopC _ (0 : Int) = _ := e
      rw [e]
      simp only [Option.bind_some, onSum]
      have L2 := loop_all (B := fun z10 =>
     bif (decide (z10 < (((List.length l) : Nat) : Int))) then ((Go.Fn.folioref06_chain l z10)).bind fun r11 =>
     bif (decide ((r11 : Int) ≠ (0 : Int))) then some (.inr (.inr (z10, r11)))
     else some (.inl (Go.IntKind.wrap .i64 (z10 + (1 : Int))))
     else some (.inr (.inl ()))) l.length (fun i => ∀ hi : i < l.length, ChainAt l i hi) (fun k : Int × Int => k.2 ≠ 0 ∧ ¬ Conds l) (fun i hi => by
        have e1 : (i : Int) < ((l.length : Nat) : Int) := by omega
        simp only [e1, decide_true, cond_true, rchain_eq l hl i hi, Option.bind_some]
        rw [wrapS (by omega)]
        by_cases hb : l[i].2.1 = []
        · simp only [hb, if_true, ne_eq, not_true_eq_false, decide_false, cond_false]
          exact .inl ⟨trivial, fun _ => .inl hb⟩
        · cases hf : fnd l l[i].2.1 with
          | none =>
            simp only [hb, if_false, if_true]
            exact .inr ⟨_, rfl, (show (64 : Int) ≠ 0 by decide), fun h => by
              rcases h.2.2 i hi with h | ⟨⟨j, h⟩, _⟩
              · exact hb h
              · rw [hf] at h; cases h⟩
          | some j =>
            simp only [hb, if_false, reduceCtorEq]
            cases he : endsS l 8 i with
            | true => exact .inl ⟨rfl, fun _ => .inr ⟨⟨j, hf⟩, he⟩⟩
            | false => exact .inr ⟨_, rfl, (show (65 : Int) ≠ 0 by decide), fun h => by
                rcases h.2.2 i hi with h | ⟨_, h⟩
                · exact hb h
                · rw [he] at h; cases h⟩) (by simp) l.length 0 (by omega)
      rcases L2 with ⟨e, h⟩ | ⟨k2, e, hq⟩
      · have e : loopC _ (0 : Int) = _ := e
        rw [e]
        exact .inl ⟨⟨by omega, fun i hi => hP i (Nat.zero_le _) hi hi, fun i hi => h i (Nat.zero_le _) hi hi⟩, rfl⟩
      · have e : loopC _ (0 : Int) = _ := e
        rw [e]
        exact .inr ⟨hq.2, _, _, rfl, hq.1⟩
    · have e : loopC _ (0 : Int) = _ := e
      rw [e]
      exact .inr ⟨hq.2, _, _, rfl, hq.1⟩
/-- a style by its name -/
def gt (l : List Sty) (n : Bs) : Option Sty := l.find? fun s => decide (s.1 = n)
theorem fnd_gt : ∀ (l : List Sty) (n : Bs), (fnd l n = none ∧ gt l n = none) ∨ ∃ j, ∃ hj : j < l.length, fnd l n = some j ∧ gt l n = some l[j] ∧ l[j].1 = n
  | [], n => .inl ⟨rfl, rfl⟩
  | s :: r, n => by
    unfold fnd gt
    by_cases h : s.1 = n
    · simp only [h, if_true, List.find?_cons, decide_true]
      exact .inr ⟨0, by simp, rfl, rfl, h⟩
    · simp only [h, if_false, List.find?_cons, decide_false]
      rcases fnd_gt r n with ⟨h1, h2⟩ | ⟨j, hj, h1, h2, h3⟩
      · exact .inl ⟨by rw [h1]; rfl, h2⟩
      · exact .inr ⟨j + 1, by simpa using hj, by rw [h1]; rfl, by simpa [gt] using h2, by simpa using h3⟩
theorem fnd_first : ∀ (l : List Sty) (n : Bs) (i : Nat) (hi : i < l.length), l[i].1 = n → ∃ j, fnd l n = some j ∧ j ≤ i
  | l, n, i, hi, h => by subst h; exact fnd_self l i hi
def endG (g : Bs → Option Sty) : Nat → Sty → Bool
  | 0, _ => false
  | m + 1, s => if s.2.1 = [] then true else match g s.2.1 with
    | none => true
    | some t => endG g m t
theorem ends_G (l : List Sty) : ∀ (m i : Nat) (hi : i < l.length), endsS l m i = endG (gt l) m l[i]
  | 0, i, hi => rfl
  | m + 1, i, hi => by
    rw [endsS_succ, List.getElem?_eq_getElem hi]
    simp only [endG]
    by_cases hb : l[i].2.1 = []
    · simp only [hb, if_true]
    · simp only [hb, if_false]
      rcases fnd_gt l l[i].2.1 with ⟨h1, h2⟩ | ⟨j, hj, h1, h2, _⟩
      · rw [h1, h2]
      · rw [h1, h2]
        exact ends_G l m j hj
def OneOk (g : Bs → Option Sty) (s : Sty) : Prop := okName s.1 = true ∧ chgS s.2.2.1 = 0 ∧ (s.2.1 = [] ∨ ((g s.2.1).isSome = true ∧ endG g 8 s = true))
def Good (l : List Sty) : Prop := l.length ≤ 64 ∧ l.Pairwise (fun s t => s.1 ≠ t.1) ∧ ∀ s ∈ l, OneOk (gt l) s
theorem good_iff (l : List Sty) : Conds l ↔ Good l := by
  constructor
  · rintro ⟨h1, h2, h3⟩
    refine ⟨h1, List.pairwise_iff_getElem.2 fun i j hi hj hij e => ?_, fun s hs => ?_⟩
    · obtain ⟨k, hk, hle⟩ := fnd_first l l[j].1 i hi e
      exact (h2 j hj).2.1 k hk (by omega)
    · obtain ⟨i, hi, rfl⟩ := List.mem_iff_getElem.1 hs
      obtain ⟨a, _, c⟩ := h2 i hi
      refine ⟨a, c, ?_⟩
      rcases h3 i hi with h | ⟨⟨j, hj⟩, h⟩
      · exact .inl h
      · refine .inr ⟨?_, by rw [← ends_G l 8 i hi]; exact h⟩
        rcases fnd_gt l l[i].2.1 with ⟨e, _⟩ | ⟨j', _, _, e, _⟩
        · rw [hj] at e; cases e
        · rw [e]; rfl
  · rintro ⟨h1, h2, h3⟩
    refine ⟨h1, fun i hi => ?_, fun i hi => ?_⟩
    · obtain ⟨a, c, _⟩ := h3 l[i] (List.getElem_mem hi)
      refine ⟨a, fun j hj hji => ?_, c⟩
      rcases fnd_gt l l[i].1 with ⟨e, _⟩ | ⟨j', hj', e, _, e2⟩
      · rw [hj] at e; cases e
      · rw [hj] at e
        injection e with e
        subst e
        exact List.pairwise_iff_getElem.1 h2 j i hj' hi hji e2
    · obtain ⟨_, _, h⟩ := h3 l[i] (List.getElem_mem hi)
      rcases h with h | ⟨h, e⟩
      · exact .inl h
      · refine .inr ⟨?_, by rw [ends_G l 8 i hi]; exact e⟩
        rcases fnd_gt l l[i].2.1 with ⟨_, e⟩ | ⟨j', _, e, _, _⟩
        · rw [e] at h; cases h
        · exact ⟨j', e⟩
theorem gt_iff : ∀ {l : List Sty} (_ : l.Pairwise (fun s t => s.1 ≠ t.1)) (n : Bs) (s : Sty), gt l n = some s ↔ s ∈ l ∧ s.1 = n
  | [], _, n, s => by simp [gt]
  | t :: r, h, n, s => by
    rw [List.pairwise_cons] at h
    have ih := gt_iff h.2 n s
    unfold gt at ih ⊢
    by_cases ht : t.1 = n
    · simp only [List.find?_cons, ht, decide_true, List.mem_cons]
      constructor
      · intro e
        injection e with e
        subst e
        exact ⟨.inl rfl, ht⟩
      · rintro ⟨h1 | h1, h2⟩
        · rw [h1]
        · exact absurd (ht.trans h2.symm) (h.1 s h1)
    · simp only [List.find?_cons, ht, decide_false, List.mem_cons]
      rw [ih]
      constructor
      · rintro ⟨h1, h2⟩; exact ⟨.inr h1, h2⟩
      · rintro ⟨h1 | h1, h2⟩
        · subst h1; exact absurd h2 ht
        · exact ⟨h1, h2⟩
theorem endG_congr {g g' : Bs → Option Sty} (M : Sty → Prop) (h : ∀ s, M s → s.2.1 ≠ [] → g s.2.1 = g' s.2.1 ∧ ∀ t, g s.2.1 = some t → M t) : ∀ (n : Nat) (s : Sty), M s → endG g n s = endG g' n s
  | 0, _, _ => rfl
  | n + 1, s, hs => by
    simp only [endG]
    by_cases hb : s.2.1 = []
    · simp only [hb, if_true]
    · simp only [hb, if_false]
      obtain ⟨e, h1⟩ := h s hs hb
      rw [← e]
      cases hg : g s.2.1 with
      | none => rfl
      | some t => exact endG_congr M h n t (h1 t hg)
def whG (g : Bs → Option Sty) : Nat → Sty → Option Chg
  | 0, _ => none
  | n + 1, s => if s.2.1 = [] then some (thenS (0, 0, -1, ()) s.2.2.1) else match g s.2.1 with
    | none => some (thenS (0, 0, -1, ()) s.2.2.1)
    | some t => (whG g n t).bind fun c => some (thenS c s.2.2.1)
theorem whG_congr {g g' : Bs → Option Sty} (M : Sty → Prop) (h : ∀ s, M s → s.2.1 ≠ [] → g s.2.1 = g' s.2.1 ∧ ∀ t, g s.2.1 = some t → M t) : ∀ (n : Nat) (s : Sty), M s → whG g n s = whG g' n s
  | 0, _, _ => rfl
  | n + 1, s, hs => by
    simp only [whG]
    by_cases hb : s.2.1 = []
    · simp only [hb, if_true]
    · simp only [hb, if_false]
      obtain ⟨e, h1⟩ := h s hs hb
      rw [← e]
      cases hg : g s.2.1 with
      | none => rfl
      | some t => simp only [whG_congr M h n t (h1 t hg)]
theorem wholeN_G (l : List Sty) (hl : l.length < 9223372036854775807) : ∀ (n i : Nat) (hi : i < l.length), style_wholeN n (l, (i : Int)) = whG (gt l) n l[i]
  | 0, i, hi => rfl
  | n + 1, i, hi => by
    have hg : idx l (i : Int) = some l[i] := by rw [idx_nat, List.getElem?_eq_getElem hi]
    unfold style_wholeN style_wholeB
    simp only [plain_eq, Option.bind_some, hg, sfind_eq l _ hl, then_eq, whG]
    by_cases hb : l[i].2.1 = []
    · simp only [hb, ne_eq, not_true_eq_false, decide_false, if_true]
      cases fnd l [] <;> rfl
    · simp only [hb, ne_eq, not_false_eq_true, decide_true, if_false]
      rcases fnd_gt l l[i].2.1 with ⟨h1, h2⟩ | ⟨j, hj, h1, h2, _⟩
      · rw [h1, h2]; rfl
      · rw [h1, h2]
        simp only [cond_true, Option.bind_some, wholeN_G l hl n j hj]
        cases whG (gt l) n l[j] <;> rfl
/-- the whole of a style of a good sheet -/
theorem whole_good (l : List Sty) (hf : Fine l) (hg : Good l) (s : Sty) (hs : s ∈ l) : ∃ i, ∃ hi : i < l.length, ∃ c, l[i] = s ∧ style_whole l (i : Int) = some c ∧ style_Whole l s.1 = some (c, 0) := by
  have hl : l.length < 9223372036854775807 := by have := hf.1; omega
  rcases check_iff l hf with ⟨_, hc⟩ | ⟨hn, _⟩
  · rw [check_same l hf] at hc
    obtain ⟨p, c, hc2, htot⟩ := scheck_eq l hf
    rw [hc] at hc2
    injection hc2 with hc2
    injection hc2 with h1 h2
    rcases fnd_gt l s.1 with ⟨_, e⟩ | ⟨j, hj, e1, e2, e3⟩
    · rw [(gt_iff hg.2.1 s.1 s).2 ⟨hs, rfl⟩] at e; cases e
    · rw [(gt_iff hg.2.1 s.1 s).2 ⟨hs, rfl⟩] at e2
      injection e2 with e2
      obtain ⟨r, hr⟩ := htot h2.symm j hj
      refine ⟨j, hj, r, e2.symm, hr, ?_⟩
      unfold style_Whole
      simp only [hc, Option.bind_some, ne_eq, not_true_eq_false, decide_false, cond_false, sfind_eq l _ hl, e1, Bool.not_true, hr]
  · exact absurd ((good_iff l).2 hg) hn
theorem whole_at (l l' : List Sty) (hl : l.length < 9223372036854775807) (hl' : l'.length < 9223372036854775807) (i j : Nat) (hi : i < l.length) (hj : j < l'.length) (h : ∀ n, whG (gt l) n l[i] = whG (gt l') n l'[j]) : style_whole l (i : Int) = style_whole l' (j : Int) := by
  unfold style_whole
  congr 1
  funext n
  rw [wholeN_G l hl n i hi, wholeN_G l' hl' n j hj, h n]
/-- two good sheets that find the same parents -/
theorem Whole_at (l l' : List Sty) (hf : Fine l) (hf' : Fine l') (hg : Good l) (hg' : Good l') (s : Sty) (hs : s ∈ l) (hs' : s ∈ l') (h : ∀ s ∈ l', s.2.1 ≠ [] → gt l' s.2.1 = gt l s.2.1 ∧ ∀ t, gt l' s.2.1 = some t → t ∈ l') : ∃ c, style_Whole l s.1 = some (c, 0) ∧ style_Whole l' s.1 = some (c, 0) := by
  have hl : l.length < 9223372036854775807 := by have := hf.1; omega
  have hl' : l'.length < 9223372036854775807 := by have := hf'.1; omega
  obtain ⟨i, hi, c, e1, e2, e3⟩ := whole_good l hf hg s hs
  obtain ⟨j, hj, d, f1, f2, f3⟩ := whole_good l' hf' hg' s hs'
  have e := whole_at l l' hl hl' i j hi hj fun n => by rw [e1, f1]; exact (whG_congr (· ∈ l') (fun s hs hb => h s hs hb) n s hs').symm
  rw [e2, f2] at e
  injection e with e
  subst e
  exact ⟨_, e3, f3⟩
theorem gt_mem {l : List Sty} (h : l.Pairwise (fun s t => s.1 ≠ t.1)) {n : Bs} {t : Sty} (e : gt l n = some t) : t ∈ l := ((gt_iff h n t).1 e).1
theorem gt_perm {l l' : List Sty} (hp : l'.Perm l) (h : l.Pairwise (fun s t => s.1 ≠ t.1)) (h' : l'.Pairwise (fun s t => s.1 ≠ t.1)) : gt l' = gt l := by
  funext n
  cases e : gt l n with
  | some s => rw [gt_iff h'] ; rw [gt_iff h] at e; exact ⟨hp.mem_iff.2 e.1, e.2⟩
  | none =>
    cases e' : gt l' n with
    | none => rfl
    | some s =>
      rw [gt_iff h'] at e'
      rw [(gt_iff h n s).2 ⟨hp.mem_iff.1 e'.1, e'.2⟩] at e
      cases e
theorem good_perm {l l' : List Sty} (hp : l'.Perm l) (h : Good l) : Good l' := by
  obtain ⟨h1, h2, h3⟩ := h
  have h' : l'.Pairwise (fun s t => s.1 ≠ t.1) := (hp.pairwise_iff (fun h => h.symm)).2 h2
  refine ⟨by rw [hp.length_eq]; exact h1, h', fun s hs => ?_⟩
  rw [gt_perm hp h2 h']
  exact h3 s (hp.mem_iff.1 hs)
theorem perm_law {l l' : List Sty} (hp : l'.Perm l) (hf : Fine l) (hf' : Fine l') (h : Good l) (s : Sty) (hs : s ∈ l) : ∃ c, style_Whole l s.1 = some (c, 0) ∧ style_Whole l' s.1 = some (c, 0) := by
  have hg' := good_perm hp h
  refine Whole_at l l' hf hf' h hg' s hs (hp.mem_iff.2 hs) fun t ht _ => ?_
  rw [gt_perm hp h.2.1 hg'.2.1]
  exact ⟨rfl, fun u hu => hp.mem_iff.2 (gt_mem h.2.1 hu)⟩
/-- without a style that nobody names as a parent -/
theorem gt_less {l l' : List Sty} (h : l.Pairwise (fun s t => s.1 ≠ t.1)) (h' : l'.Pairwise (fun s t => s.1 ≠ t.1)) (a : Sty) (hm : ∀ s, s ∈ l' ↔ s ∈ l ∧ s.1 ≠ a.1) (n : Bs) (hn : n ≠ a.1) : gt l' n = gt l n := by
  cases e : gt l n with
  | some s => rw [gt_iff h'] ; rw [gt_iff h] at e; exact ⟨(hm s).2 ⟨e.1, fun e2 => hn (e.2.symm.trans e2)⟩, e.2⟩
  | none =>
    cases e' : gt l' n with
    | none => rfl
    | some s =>
      rw [gt_iff h'] at e'
      rw [(gt_iff h n s).2 ⟨((hm s).1 e'.1).1, e'.2⟩] at e
      cases e
theorem less_law {l l' : List Sty} (hs' : l'.Sublist l) (a : Sty) (hm : ∀ s, s ∈ l' ↔ s ∈ l ∧ s.1 ≠ a.1) (hpar : ∀ s ∈ l, s.2.1 ≠ a.1) (hf : Fine l) (hf' : Fine l') (h : Good l) (s : Sty) (hs : s ∈ l) (hsa : s.1 ≠ a.1) : ∃ c, style_Whole l s.1 = some (c, 0) ∧ style_Whole l' s.1 = some (c, 0) := by
  obtain ⟨h1, h2, h3⟩ := h
  have h' : l'.Pairwise (fun s t => s.1 ≠ t.1) := h2.sublist hs'
  have hg : ∀ s ∈ l, gt l' s.2.1 = gt l s.2.1 := fun s hs => gt_less h2 h' a hm _ (hpar s hs)
  have hM : ∀ s, s ∈ l' → s.2.1 ≠ [] → gt l' s.2.1 = gt l s.2.1 ∧ ∀ t, gt l' s.2.1 = some t → t ∈ l' := fun s hs _ => ⟨hg s ((hm s).1 hs).1, fun t ht => gt_mem h' ht⟩
  have hg' : Good l' := by
    refine ⟨Nat.le_trans hs'.length_le h1, h', fun s hs => ?_⟩
    obtain ⟨a1, a2, a3⟩ := h3 s ((hm s).1 hs).1
    refine ⟨a1, a2, ?_⟩
    rw [hg s ((hm s).1 hs).1, endG_congr (· ∈ l') hM 8 s hs]
    exact a3
  exact Whole_at l l' hf hf' ⟨h1, h2, h3⟩ hg' s hs ((hm s).2 ⟨hs, hsa⟩) hM
theorem pair_eq {l : List Sty} (h : l.Pairwise (fun s t => s.1 ≠ t.1)) {i j : Nat} (hi : i < l.length) (hj : j < l.length) (e : l[i].1 = l[j].1) : i = j := by
  rcases Nat.lt_trichotomy i j with h1 | h1 | h1
  · exact absurd e (List.pairwise_iff_getElem.1 h i j hi hj h1)
  · exact h1
  · exact absurd e.symm (List.pairwise_iff_getElem.1 h j i hj hi h1)
end Go.Fn
/- Chapter 6, plainly: the order of a sheet is no matter. -/
namespace Go.Fn
open Go Go.Lf
theorem nz_of {n : Nat} (h : 0 < n) (x : Int) : nz ((n : Nat) : Int) x = some x := if_neg (by omega)
theorem chk_of {n i : Nat} (h : i < n) : chk n (i : Int) = some i := by
  unfold chk
  rw [if_pos ⟨by omega, by omega⟩]
  rfl
theorem tmod_nat (i n : Nat) : Int.tmod (i : Int) (n : Int) = ((i % n : Nat) : Int) := rfl
/-- a number's place in a list of so many -/
theorem place {n : Nat} (h0 : 0 < n) (h1 : n ≤ 64) (x : Int) : ∃ b : Nat, b < n ∧ Int.tmod (IntKind.wrap .i64 (Int.tmod x (n : Int) + (n : Int))) (n : Int) = (b : Int) := by
  have a1 : Int.tmod x (n : Int) < n := Int.tmod_lt_of_pos x (by omega)
  have a2 : -(n : Int) < Int.tmod x (n : Int) := by
    have := Int.lt_tmod_of_pos x (show (0 : Int) < n by omega)
    omega
  rw [wrap64 (by omega) (by omega)]
  generalize Int.tmod x (n : Int) = y at a1 a2
  obtain ⟨m, hm⟩ := Int.eq_ofNat_of_zero_le (show 0 ≤ y + n by omega)
  rw [hm, tmod_nat]
  exact ⟨m % n, Nat.mod_lt _ h0, rfl⟩
theorem swap_loop (l : List Sty) (p : List Int) (h0 : 0 < l.length) (h1 : l.length ≤ 64) (hp : p.length < 9223372036854775807) (B : Int × List Sty → Option ((Int × List Sty) ⊕ List Sty)) (hB : ∀ z5, B z5 = (bif (decide (z5.1 < (((List.length p) : Nat) : Int))) then ((Go.Lf.nz (((List.length l) : Nat) : Int) (Int.tmod z5.1 (((List.length l) : Nat) : Int)))).bind fun r6 =>
     ((Go.Lf.idx p z5.1)).bind fun r7 =>
     ((Go.Lf.nz (((List.length l) : Nat) : Int) (Int.tmod r7 (((List.length l) : Nat) : Int)))).bind fun r8 =>
     ((Go.Lf.nz (((List.length l) : Nat) : Int) (Int.tmod (Go.IntKind.wrap .i64 (r8 + (((List.length l) : Nat) : Int))) (((List.length l) : Nat) : Int)))).bind fun r9 =>
     ((Go.Lf.chk (List.length z5.2) r9)).bind fun r10 =>
     ((Go.Lf.nth z5.2 r10)).bind fun r11 =>
     ((Go.Lf.chk (List.length z5.2) r6)).bind fun r12 =>
     ((Go.Lf.nth z5.2 r12)).bind fun r13 =>
     ((Go.Lf.chk (List.length z5.2) r6)).bind fun r14 =>
     ((Go.Lf.nth z5.2 r14)).bind fun _ =>
     ((Go.Lf.chk (List.length (List.set z5.2 r14 r11)) r9)).bind fun r16 =>
     ((Go.Lf.nth (List.set z5.2 r14 r11) r16)).bind fun _ =>
     some (.inl ((Go.IntKind.wrap .i64 (z5.1 + (1 : Int))), (List.set (List.set z5.2 r14 r11) r16 r13)))
     else some (.inr z5.2))) : ∀ (m i : Nat) (c : List Sty), i + m = p.length → c.Perm l → ∃ o, loopC B ((i : Int), c) = some o ∧ o.Perm l
  | 0, i, c, hi, hc => by
    have : ¬ (i : Int) < ((p.length : Nat) : Int) := by omega
    rw [loopC_step, hB]
    simp only [this, decide_false, cond_false, Option.bind_some]
    exact ⟨c, rfl, hc⟩
  | m + 1, i, c, hi, hc => by
    have e1 : (i : Int) < ((p.length : Nat) : Int) := by omega
    have hip : i < p.length := by omega
    have hg : idx p (i : Int) = some p[i] := by rw [idx_nat, List.getElem?_eq_getElem hip]
    have hcl := hc.length_eq
    obtain ⟨b, hb, eb⟩ := place h0 h1 p[i]
    have ha : i % l.length < c.length := by rw [hcl]; exact Nat.mod_lt _ h0
    have hb' : b < c.length := by omega
    rw [loopC_step, hB]
    simp only [e1, decide_true, cond_true, nz_of h0, Option.bind_some, hg, eb, tmod_nat, chk_of ha, chk_of hb', nth, List.getElem?_eq_getElem ha, List.getElem?_eq_getElem hb', List.length_set, List.getElem?_eq_getElem (show b < (c.set (i % l.length) c[b]).length by rw [List.length_set]; exact hb')]
    rw [wrapS (by omega)]
    exact swap_loop l p h0 h1 hp B hB m (i + 1) _ (by omega) ((List.set_set_perm ha hb').trans hc)
theorem less_loop (l : List Sty) (k : Nat) (hk : k < l.length) (h1 : l.length ≤ 64) (tr : List Sty) (B : Int × List Sty × Bool × List Sty → Option ((Int × List Sty × Bool × List Sty) ⊕ (List Sty × Bool × List Sty))) (hB : ∀ z21, B z21 = (bif (decide (z21.1 < (((List.length l) : Nat) : Int))) then ((bif (!z21.2.2.1) then ((Go.Lf.idx l z21.1)).bind fun r22 =>
         ((Go.Lf.idx l (k : Int))).bind fun r23 =>
         some ((decide ((r22.2.1 : List (UInt8)) = r23.1)), (z21.2.2.2, z21.2.1))
         else some (true, (z21.2.2.2, z21.2.1))).bind fun r24 =>
       bif (decide ((z21.1 : Int) ≠ (k : Int))) then ((Go.Lf.idx l z21.1)).bind fun r25 =>
       ((Go.Lf.app (56 : Nat) r24.2.2 (r25 :: ([] : List Sty)))).bind fun r26 =>
       some (r26, (r24.1, r24.2.1))
       else some (r24.2.2, (r24.1, r24.2.1))).bind fun r27 =>
     some (.inl ((Go.IntKind.wrap .i64 (z21.1 + (1 : Int))), (r27.1, (r27.2.1, r27.2.2))))
     else some (.inr (z21.2.1, (z21.2.2.1, z21.2.2.2))))) : ∀ (m i : Nat), i + m = l.length → loopC B ((i : Int), ((l.take i).eraseIdx k, ((l.take i).any (fun s => decide (s.2.1 = l[k].1)), tr))) = some (l.eraseIdx k, (l.any (fun s => decide (s.2.1 = l[k].1)), tr))
  | 0, i, hi => by
    have : ¬ (i : Int) < ((l.length : Nat) : Int) := by omega
    rw [loopC_step, hB]
    simp only [this, decide_false, cond_false, Option.bind_some]
    rw [List.take_of_length_le (by omega)]
  | m + 1, i, hi => by
    have e1 : (i : Int) < ((l.length : Nat) : Int) := by omega
    have hil : i < l.length := by omega
    have hg : idx l (i : Int) = some l[i] := by rw [idx_nat, List.getElem?_eq_getElem hil]
    have hgk : idx l (k : Int) = some l[k] := by rw [idx_nat, List.getElem?_eq_getElem hk]
    have ht : l.take (i + 1) = l.take i ++ [l[i]] := List.take_succ_eq_append_getElem hil
    have hle : ((l.take i).eraseIdx k).length ≤ i := Nat.le_trans (List.eraseIdx_sublist _ _).length_le (by rw [List.length_take]; omega)
    have hs : (bif decide ((i : Int) ≠ (k : Int)) then app 56 ((l.take i).eraseIdx k) [l[i]] else some ((l.take i).eraseIdx k)) = some ((l.take (i + 1)).eraseIdx k) := by
      rw [ht]
      by_cases hik : i = k
      · subst hik
        simp only [ne_eq, not_true_eq_false, decide_false, cond_false]
        rw [List.eraseIdx_of_length_le (by rw [List.length_take]; omega), List.eraseIdx_append_of_length_le (by rw [List.length_take]; omega)]
        have : i - (l.take i).length = 0 := by rw [List.length_take]; omega
        rw [this]
        simp
      · have hne : ((i : Int) ≠ (k : Int)) := by omega
        simp only [hne, ne_eq, not_false_eq_true, decide_true, cond_true]
        rw [app_of (by simp only [List.length_singleton]; omega)]
        congr 1
        rcases Nat.lt_or_ge k i with h | h
        · rw [List.eraseIdx_append_of_lt_length (by rw [List.length_take]; omega)]
        · rw [List.eraseIdx_of_length_le (by rw [List.length_take]; omega), List.eraseIdx_of_length_le (by rw [List.length_append, List.length_take, List.length_singleton]; omega)]
    have hn : (l.take (i + 1)).any (fun s => decide (s.2.1 = l[k].1)) = ((l.take i).any (fun s => decide (s.2.1 = l[k].1)) || decide (l[i].2.1 = l[k].1)) := by
      rw [ht, List.any_append]
      simp only [List.any_cons, List.any_nil, Bool.or_false]
    rw [loopC_step, hB]
    simp only [e1, decide_true, cond_true, hg, hgk, Option.bind_some]
    cases ha : (l.take i).any (fun s => decide (s.2.1 = l[k].1)) with
    | true =>
      simp only [Bool.not_true, cond_false, Option.bind_some]
      rw [ha, Bool.true_or] at hn
      have ih := less_loop l k hk h1 tr B hB m (i + 1) (by omega)
      rw [hn] at ih
      by_cases hik : i = k
      · subst hik
        simp only [ne_eq, not_true_eq_false, decide_false, cond_false, Option.some.injEq] at hs
        simp only [ne_eq, not_true_eq_false, decide_false, cond_false, Option.bind_some]
        rw [hs, wrapS (by omega)]
        exact ih
      · have hne : ((i : Int) ≠ (k : Int)) := by omega
        simp only [hne, ne_eq, not_false_eq_true, decide_true, cond_true] at hs
        simp only [hne, ne_eq, not_false_eq_true, decide_true, cond_true, hs, Option.bind_some]
        rw [wrapS (by omega)]
        exact ih
    | false =>
      simp only [Bool.not_false, cond_true, Option.bind_some]
      rw [ha, Bool.false_or] at hn
      have ih := less_loop l k hk h1 tr B hB m (i + 1) (by omega)
      rw [hn] at ih
      by_cases hik : i = k
      · subst hik
        simp only [ne_eq, not_true_eq_false, decide_false, cond_false, Option.some.injEq] at hs
        simp only [ne_eq, not_true_eq_false, decide_false, cond_false, Option.bind_some]
        rw [hs, wrapS (by omega)]
        exact ih
      · have hne : ((i : Int) ≠ (k : Int)) := by omega
        simp only [hne, ne_eq, not_false_eq_true, decide_true, cond_true] at hs
        simp only [hne, ne_eq, not_false_eq_true, decide_true, cond_true, hs, Option.bind_some]
        rw [wrapS (by omega)]
        exact ih
theorem order_loop (l tr le : List Sty) (k : Nat) (nd : Bool) (h0 : l.length ≤ 64) (h1 : tr.length ≤ 64) (h2 : le.length ≤ 64)
    (hW : ∀ i (hi : i < l.length), ∃ c, style_Whole l l[i].1 = some (c, 0) ∧ style_Whole tr l[i].1 = some (c, 0) ∧ (i ≠ k → nd = false → style_Whole le l[i].1 = some (c, 0)))
    (B : Int × List Sty → Option ((Int × List Sty) ⊕ (Unit ⊕ Bool))) (hB : ∀ z29, B z29 = (bif (decide (z29.1 < (((List.length l) : Nat) : Int))) then (((Go.Fn.foliolaw06_twinM l)).bind fun r30 =>
       ((Go.Lf.idx l z29.1)).bind fun r31 =>
       ((Go.Fn.style_Whole r30 r31.1)).bind fun r32 =>
       ((Go.Fn.foliolaw06_twinM tr)).bind fun r33 =>
       ((Go.Lf.idx l z29.1)).bind fun r34 =>
       ((Go.Fn.style_Whole r33 r34.1)).bind fun r35 =>
       (bif (!(decide ((r32.2 : Int) ≠ (0 : Int)))) then bif (!(decide ((r35.2 : Int) ≠ (0 : Int)))) then ((Go.Fn.foliolaw06_same r32.1 r35.1)).bind fun r36 =>
         some ((!r36), (z29.2, r32.1))
         else some (true, (z29.2, r32.1))
         else some (true, (z29.2, r32.1))).bind fun r37 =>
       bif r37.1 then some (.inl false)
       else (bif (!(decide ((z29.1 : Int) = (k : Int)))) then some (nd, (r37.2.1, r37.2.2))
         else some (true, (r37.2.1, r37.2.2))).bind fun r38 =>
       bif r38.1 then some (.inr r38.2.1)
       else ((Go.Fn.foliolaw06_twinM r38.2.1)).bind fun r39 =>
       ((Go.Lf.idx l z29.1)).bind fun r40 =>
       ((Go.Fn.style_Whole r39 r40.1)).bind fun r41 =>
       (bif (!(decide ((r41.2 : Int) ≠ (0 : Int)))) then ((Go.Fn.foliolaw06_same r38.2.2 r41.1)).bind fun r42 =>
         some ((!r42), r38.2.1)
         else some (true, r38.2.1)).bind fun r43 =>
       bif r43.1 then some (.inl false)
       else some (.inr r43.2) : Option ((Bool) ⊕ (List Sty))).bind fun r44 =>
     Go.Lf.onSum r44 (fun a45 =>
     some (.inr (.inr a45))) (fun b46 =>
     some (.inl ((Go.IntKind.wrap .i64 (z29.1 + (1 : Int))), b46)))
     else some (.inr (.inl ())))) : ∀ (m i : Nat), i + m = l.length → loopC B ((i : Int), le) = some (.inl ())
  | 0, i, hi => by
    have : ¬ (i : Int) < ((l.length : Nat) : Int) := by omega
    rw [loopC_step, hB]
    simp only [this, decide_false, cond_false, Option.bind_some]
  | m + 1, i, hi => by
    have e1 : (i : Int) < ((l.length : Nat) : Int) := by omega
    have hil : i < l.length := by omega
    have hg : idx l (i : Int) = some l[i] := by rw [idx_nat, List.getElem?_eq_getElem hil]
    obtain ⟨c, w1, w2, w3⟩ := hW i hil
    have ih := order_loop l tr le k nd h0 h1 h2 hW B hB m (i + 1) (by omega)
    rw [loopC_step, hB]
    simp only [e1, decide_true, cond_true, twinM_same l (by omega), twinM_same tr (by omega), hg, w1, w2, Option.bind_some, same_eq, ne_eq, not_true_eq_false, decide_false, Bool.not_false, Bool.not_true, cond_false]
    by_cases hik : i = k
    · subst hik
      simp only [decide_true, Bool.not_true, cond_false, Option.bind_some, cond_true, onSum]
      rw [wrapS (by omega)]
      exact ih
    · have hne : ¬ ((i : Int) = (k : Int)) := by omega
      simp only [hne, decide_false, Bool.not_false, cond_true, Option.bind_some]
      cases nd with
      | true =>
        simp only [cond_true, Option.bind_some, onSum]
        rw [wrapS (by omega)]
        exact ih
      | false =>
        simp only [cond_false, twinM_same le (by omega), w3 hik rfl, Option.bind_some, not_true_eq_false, decide_false, Bool.not_false, cond_true, decide_true, Bool.not_true, onSum]
        rw [wrapS (by omega)]
        exact ih
theorem order_law (l : List Sty) (p : List Int) (out : Int) (h : l.length * 56 ≤ lim) (ha : ∀ s ∈ l, s.1.length ≤ lim ∧ s.2.1.length ≤ lim ∧ Fits s.2.2.1.1 ∧ Fits s.2.2.1.2.1) (hp : p.length * 8 ≤ lim) : foliolaw06_StyleOrder l p out = some true := by
  have hF := fine_all h ha
  have hf : Fine l := ⟨by have := hF.1; simp only [List.length_append] at this; omega, ha⟩
  have hpl : p.length < 9223372036854775807 := by unfold lim at hp; omega
  unfold foliolaw06_StyleOrder
  rw [awake]
  simp only [Option.bind_some, Bool.not_true, cond_false]
  rcases check_iff l hf with ⟨hc, e⟩ | ⟨hn, q, c, e, hc0⟩
  · have hg := (good_iff l).1 hc
    have h64 := hg.1
    rw [e]
    simp only [Option.bind_some, ne_eq, not_true_eq_false, decide_false, Bool.not_false, cond_true]
    by_cases hz : l.length = 0
    · have : (((l.length : Nat) : Int) = 0) := by omega
      simp only [this, decide_true, cond_true]
    · have hz' : ¬ (((l.length : Nat) : Int) = 0) := by omega
      have h0 : 0 < l.length := by omega
      simp only [hz', decide_false, cond_false, twinM_same l (by omega), Option.bind_some, nz_of h0]
      obtain ⟨tr, e1, hperm⟩ := swap_loop l p h0 h64 hpl _ (fun _ => rfl) p.length 0 l (by omega) (List.Perm.refl _)
      have e1 : loopC _ ((0 : Int), l) = some tr := e1
      simp only [Option.bind_some, nz_of h0] at e1
      rw [e1]
      obtain ⟨k, hk, ek⟩ := place h0 h64 out
      simp only [Option.bind_some, ek]
      have e2 := less_loop l k hk h64 tr _ (fun _ => rfl) l.length 0 (by omega)
      have e2 : loopC _ ((0 : Int), (([] : List Sty), (false, tr))) = _ := e2
      rw [e2]
      simp only [Option.bind_some]
      have hft : Fine tr := ⟨by rw [hperm.length_eq]; exact hf.1, fun s hs => hf.2 s (hperm.mem_iff.1 hs)⟩
      have hsub := List.eraseIdx_sublist l k
      have hfl : Fine (l.eraseIdx k) := ⟨Nat.le_trans hsub.length_le hf.1, fun s hs => hf.2 s (hsub.subset hs)⟩
      have e3 := order_loop l tr (l.eraseIdx k) k (l.any (fun s => decide (s.2.1 = l[k].1))) h64 (by rw [hperm.length_eq]; exact h64) (Nat.le_trans hsub.length_le h64) (fun i hi => by
        obtain ⟨c, w1, w2⟩ := perm_law hperm hf hft hg l[i] (List.getElem_mem hi)
        refine ⟨c, w1, w2, fun hik hnd => ?_⟩
        have hpar : ∀ s ∈ l, s.2.1 ≠ l[k].1 := fun s hs he => by
          have := List.any_eq_false.1 hnd s hs
          simp [he] at this
        obtain ⟨c', w3, w4⟩ := less_law hsub l[k] (fun s => by
          rw [List.mem_eraseIdx_iff_getElem]
          constructor
          · rintro ⟨j, hj, hne, rfl⟩
            exact ⟨List.getElem_mem hj, fun he => hne (pair_eq hg.2.1 hj hk he)⟩
          · rintro ⟨hs, hne⟩
            obtain ⟨j, hj, rfl⟩ := List.mem_iff_getElem.1 hs
            exact ⟨j, hj, fun he => hne (by subst he; rfl), rfl⟩) hpar hf hfl hg l[i] (List.getElem_mem hi) (fun he => hik (pair_eq hg.2.1 hi hk he))
        rw [w1] at w3
        injection w3 with w3
        injection w3 with w3
        rw [w4, w3]) _ (fun _ => rfl) l.length 0 (by omega)
      have e3 : loopC _ ((0 : Int), l.eraseIdx k) = _ := e3
      simp only [ne_eq, twinM_same l (by omega), Option.bind_some] at e3
      rw [e3]
      rfl
  · rw [e]
    simp [hc0]
end Go.Fn
