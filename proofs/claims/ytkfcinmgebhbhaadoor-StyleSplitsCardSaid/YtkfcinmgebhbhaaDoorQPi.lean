/- Chapter 6, plainly: a style written. -/
import Derived.Test.YtkfcinmgebhbhaaDoorQPh
namespace Go.Fn
open Go Go.Lf

theorem andNot_zero {n : Int} (h0 : 0 ≤ n) (h1 : n ≤ 9223372036854775807) : Go.Lf.bits .andNot .i64 n 127 = 0 ↔ n ≤ 127 := by
  rw [bits_andNot, num_zero, show BitVec.ofInt 64 127 = 127#64 by decide]
  have hx : ((BitVec.ofInt 64 n).toNat : Int) = n := by simp [BitVec.toNat_ofInt]; omega
  have hb : ∀ i, (127#64).getLsbD i = decide (i < 7) := fun i => by
    rw [← BitVec.testBit_toNat, show (127#64).toNat = 2 ^ 7 - 1 by decide, Nat.testBit_two_pow_sub_one]
  revert hx
  generalize BitVec.ofInt 64 n = X
  intro hx
  constructor
  · intro h
    have : X.toNat < 2 ^ 7 := Nat.lt_pow_two_of_testBit _ fun i hi => by
      rw [BitVec.testBit_toNat]
      by_cases h64 : i < 64
      · have h2 := congrArg (fun x : BitVec 64 => x.getLsbD i) h
        have h3 : ¬ i < 7 := by omega
        simp only [BitVec.getLsbD_and, BitVec.getLsbD_not, hb, h3, h64, decide_true, decide_false, Bool.not_false, Bool.and_true, BitVec.getLsbD_zero, Bool.true_and] at h2
        exact h2
      · exact BitVec.getLsbD_of_ge _ _ (by omega)
    omega
  · intro h
    apply BitVec.eq_of_getLsbD_eq
    intro i hi
    rw [BitVec.getLsbD_and, BitVec.getLsbD_not, hb]
    by_cases h7 : i < 7
    · simp [h7]
    · have : X.getLsbD i = false := by
        rw [← BitVec.testBit_toNat]
        exact Nat.testBit_lt_two_pow (Nat.lt_of_lt_of_le (show X.toNat < 2 ^ 7 by omega) (Nat.pow_le_pow_right (by omega) (by omega)))
      simp [this]
def chgS (c : Chg) : Int :=
  if 0 ≤ c.1 ∧ c.1 ≤ 127 ∧ 0 ≤ c.2.1 ∧ c.2.1 ≤ 127 ∧ Go.Lf.bits .and .i64 c.1 c.2.1 = 0 then (if -1 ≤ c.2.2.1 ∧ c.2.2.1 ≤ 15 then 0 else 63) else 62
theorem col_eq (n : Int) : (bif (!(decide (n < (-(1 : Int))))) then some (decide ((15 : Int) < n)) else some true : Option Bool).bind (fun r2 => bif r2 then some (63 : Int) else some (0 : Int)) = some (if -1 ≤ n ∧ n ≤ 15 then 0 else 63) := by
  by_cases h1 : n < -1
  · have : ¬ -1 ≤ n := by omega
    simp [h1, this]
  · have g1 : -1 ≤ n := by omega
    by_cases h2 : (15 : Int) < n
    · have : ¬ n ≤ 15 := by omega
      simp [h1, h2, this]
    · have g2 : n ≤ 15 := by omega
      simp [h1, h2, g1, g2]
theorem own_eq (c : Chg) : folioref06_own c = some (chgS c) := by
  obtain ⟨on, off, col, ⟨⟩⟩ := c
  unfold folioref06_own chgS
  dsimp only
  have hc := col_eq col
  by_cases h1 : on < 0
  · have : ¬ 0 ≤ on := by omega
    simp [h1, this]
  · have g1 : 0 ≤ on := by omega
    by_cases h2 : off < 0
    · have : ¬ 0 ≤ off := by omega
      simp [h1, h2, this]
    · have g2 : 0 ≤ off := by omega
      by_cases h3 : (127 : Int) < on
      · have : ¬ on ≤ 127 := by omega
        simp [h1, h2, h3, this]
      · have g3 : on ≤ 127 := by omega
        by_cases h4 : (127 : Int) < off
        · have : ¬ off ≤ 127 := by omega
          simp [h1, h2, h3, h4, this]
        · have g4 : off ≤ 127 := by omega
          by_cases h5 : Go.Lf.bits .and .i64 on off = 0
          · simp only [h1, h2, h3, h4, h5, g1, g2, g3, g4, decide_false, Bool.not_false, cond_true, ne_eq, not_true_eq_false, Option.bind_some, cond_false, and_self, if_true]
            exact hc
          · simp [h1, h2, h3, h4, h5]
theorem change_eq (c : Chg) (hf : Fits c.1 ∧ Fits c.2.1) : style_change c = some (chgS c) := by
  obtain ⟨on, off, col, ⟨⟩⟩ := c
  unfold style_change chgS
  dsimp only
  have hc := col_eq col
  have e2 : IntKind.i64.max = 9223372036854775807 := by decide
  have h10 := hf.1.2
  have h20 := hf.2.2
  dsimp only at h10 h20
  rw [e2] at h10 h20
  by_cases h1 : on < 0
  · have g : ¬ 0 ≤ on := by omega
    by_cases a1 : Go.Lf.bits .andNot .i64 on 127 = 0 <;> by_cases a2 : Go.Lf.bits .andNot .i64 off 127 = 0 <;> simp [a1, a2, h1, g]
  · have g1 : 0 ≤ on := by omega
    have k1 := andNot_zero g1 h10
    by_cases h2 : off < 0
    · have g : ¬ 0 ≤ off := by omega
      by_cases a1 : Go.Lf.bits .andNot .i64 on 127 = 0 <;> by_cases a2 : Go.Lf.bits .andNot .i64 off 127 = 0 <;> simp [a1, a2, h1, h2, g]
    · have g2 : 0 ≤ off := by omega
      have k2 := andNot_zero g2 h20
      by_cases h3 : on ≤ 127
      · by_cases h4 : off ≤ 127
        · have a1 := k1.2 h3
          have a2 := k2.2 h4
          by_cases h5 : Go.Lf.bits .and .i64 on off = 0
          · simp only [h1, h2, h3, h4, h5, a1, a2, g1, g2, decide_false, Bool.not_false, cond_true, ne_eq, not_true_eq_false, Option.bind_some, cond_false, and_self, if_true]
            exact hc
          · simp [h1, h2, h5, a1, a2]
        · have a2 := mt k2.1 h4
          by_cases a1 : Go.Lf.bits .andNot .i64 on 127 = 0 <;> simp [a1, a2, h4]
      · have a1 := mt k1.1 h3
        simp [a1, h3]

/-- the words of the bits that are set -/
def bitsW (bit : Nat → Bool) (sg : Bs) : Nat → List Bs → Bs
  | _, [] => []
  | i, x :: r => (if bit i then sg ++ x else []) ++ bitsW bit sg (i + 1) r
theorem bitsW_cons (bit : Nat → Bool) (sg : Bs) (i : Nat) (x : Bs) (r : List Bs) : bitsW bit sg i (x :: r) = (if bit i then sg ++ x else []) ++ bitsW bit sg (i + 1) r := rfl
theorem bitsW_len (bit : Nat → Bool) (sg : Bs) : ∀ (l : List Bs) (i : Nat), (∀ x ∈ l, x.length ≤ 7) → (bitsW bit sg i l).length ≤ l.length * (sg.length + 7)
  | [], i, _ => by simp [bitsW]
  | x :: r, i, h => by
    have ih := bitsW_len bit sg r (i + 1) fun y hy => h y (List.mem_cons_of_mem _ hy)
    have h1 := h x List.mem_cons_self
    unfold bitsW
    rw [List.length_append, List.length_cons, Nat.succ_mul]
    split
    · rw [List.length_append]; omega
    · simp only [List.length_nil]; omega
theorem W7_len : ∀ x ∈ W7, x.length ≤ 7 := by decide
theorem word_loop {S K : Type} (mk : Int → Bs → S) (fin : Bs → K) (B : S → Option (S ⊕ K)) (bit : Nat → Bool) (sg : Bs)
    (h1 : ∀ (i : Nat) (x b : Bs), W7[i]? = some x → b.length ≤ 4096 → B (mk (i : Int) b) = some (.inl (mk ((i + 1 : Nat) : Int) (if bit i then b ++ (sg ++ x) else b))))
    (h2 : ∀ b, B (mk 7 b) = some (.inr (fin b))) : ∀ (m i : Nat) (b : Bs), i + m = 7 → b.length + m * (sg.length + 7) ≤ 4096 → loopC B (mk (i : Int) b) = some (fin (b ++ bitsW bit sg i (W7.drop i)))
  | 0, i, b, hi, hb => by
    have : i = 7 := by omega
    subst this
    rw [loopC_step, show ((7 : Nat) : Int) = 7 from rfl, h2, show W7.drop 7 = [] from rfl]
    simp [bitsW]
  | m + 1, i, b, hi, hb => by
    have hlt : i < W7.length := by show i < 7; omega
    have hx := W7_len W7[i] (List.getElem_mem hlt)
    rw [Nat.succ_mul] at hb
    rw [loopC_step, h1 i W7[i] b (List.getElem?_eq_getElem hlt) (by omega), List.drop_eq_getElem_cons hlt]
    simp only [Option.bind_some]
    rw [word_loop mk fin B bit sg h1 h2 m (i + 1) _ (by omega) (by
      split
      · simp only [List.length_append]; omega
      · omega)]
    congr 2
    rw [bitsW_cons]
    split <;> simp [List.append_assoc]
def bitN (n : Int) (i : Nat) : Bool := (BitVec.ofInt 64 n).getLsbD i
theorem u64_at : ∀ i : Nat, i < 7 → IntKind.wrap .u64 (i : Int) = (i : Int) := lt7 (by decide) (by decide) (by decide) (by decide) (by decide) (by decide) (by decide)
theorem bitN_at {n : Int} (hn : Fits n) {i : Nat} (hi : i < 7) : decide (Go.Lf.bits .and .i64 (Int.fdiv n ((2 : Int) ^ (Min.min (Int.toNat (i : Int)) (64 : Nat)))) 1 = 1) = bitN n i := by
  have h := bit_at (BitVec.ofInt 64 n) i hi
  rw [num_of hn] at h
  unfold bitN
  cases hb : (BitVec.ofInt 64 n).getLsbD i with
  | true => exact decide_eq_true (h.2 hb)
  | false => exact decide_eq_false (mt h.1 (by rw [hb]; simp))
theorem nn_at {i : Nat} (x : Int) : nn (i : Int) x = some x := if_neg (by omega)
theorem rbits_eq (sg : Bs) (n : Int) (hn : Fits n) (hs : sg.length ≤ 1) : folioref06_bits sg n = some (bitsW (bitN n) (32 :: sg) 0 W7) := by
  unfold folioref06_bits
  rw [rwords_eq]
  simp only [Option.bind_some]
  have h := word_loop (fun i b => (i, b)) (fun b => b) (fun z2 =>
     bif (decide (z2.1 < (((List.length W7) : Nat) : Int))) then (((Go.Lf.nn (Go.IntKind.wrap .u64 z2.1) (Int.fdiv n ((2 : Int) ^ (Min.min (Int.toNat (Go.IntKind.wrap .u64 z2.1)) (64 : Nat)))))).bind fun r3 =>
       bif (decide (((Go.Lf.bits .and .i64 r3 (1 : Int)) : Int) = (1 : Int))) then ((Go.Lf.cat z2.2 ((32 : UInt8) :: ([] : List (UInt8))))).bind fun r4 =>
       ((Go.Lf.cat r4 sg)).bind fun r5 =>
       ((Go.Lf.idx W7 z2.1)).bind fun r6 =>
       ((Go.Lf.cat r5 r6)).bind fun r7 =>
       some r7
       else some z2.2).bind fun r8 =>
     some (.inl ((Go.IntKind.wrap .i64 (z2.1 + (1 : Int))), r8))
     else some (.inr z2.2)) (bitN n) (32 :: sg) (fun i x b hx hb => by
      have hlt : i < 7 := (List.getElem?_eq_some_iff.1 hx).1
      have hxl := W7_len x (List.mem_of_getElem? hx)
      have e1 : (i : Int) < ((W7.length : Nat) : Int) := by show (i : Int) < 7; omega
      simp only [e1, decide_true, cond_true, u64_at i hlt, nn_at, Option.bind_some, bitN_at hn hlt, idx_nat, hx]
      rw [wrapS (by omega)]
      cases bitN n i with
      | false => rfl
      | true =>
        rw [cat_of (by simp; omega)]
        simp only [cond_true, Option.bind_some]
        rw [cat_of (by simp; omega)]
        simp only [Option.bind_some]
        rw [cat_of (by simp; omega)]
        simp) (fun b => by simp; rfl) 7 0 [] rfl (by simp; omega)
  have h : loopC _ ((0 : Int), ([] : Bs)) = _ := h
  rw [h]
  simp
theorem okName_len {s : Bs} (h : okName s = true) : s.length ≤ 12 := by
  unfold okName at h
  simp at h
  exact h.1.2
theorem itoa_len : ∀ n : Nat, n < 16 → (Lib.itoa (n : Int)).length ≤ 2 := by
  have h : ((List.range 16).all fun n => Nat.ble (Lib.itoa (n : Int)).length 2) = true := by kernel_rfl
  intro n hn
  exact Nat.le_of_ble_eq_true (List.all_eq_true.1 h n (List.mem_range.2 hn))
abbrev SPCOLOR : Bs := [32, 99, 111, 108, 111, 114, 32]
def writeS (st : Sty) : Bs × Int :=
  if okName st.1 = false then ([], 60)
  else if chgS st.2.2.1 ≠ 0 then ([], chgS st.2.2.1)
  else if st.2.1 ≠ [] ∧ okName st.2.1 = false then ([], 64)
  else ((st.1 ++ (if st.2.1 = [] then [] else 58 :: st.2.1)) ++ bitsW (bitN st.2.2.1.1) [32, 43] 0 W7 ++ bitsW (bitN st.2.2.1.2.1) [32, 45] 0 W7 ++ (if st.2.2.1.2.2.1 = -1 then [] else SPCOLOR ++ Lib.itoa st.2.2.1.2.2.1), 0)
def lim : Nat := 140737488351232
theorem chgS_zero {c : Chg} (h : chgS c = 0) : -1 ≤ c.2.2.1 ∧ c.2.2.1 ≤ 15 := by
  unfold chgS at h
  split at h
  · split at h
    · assumption
    · omega
  · omega
theorem itoaC {n : Int} (h0 : -1 ≤ n) (h1 : n ≤ 15) (h2 : n ≠ -1) : strconv_Itoa n = some (Lib.itoa n) ∧ (Lib.itoa n).length ≤ 2 := by
  constructor
  · unfold strconv_Itoa; rw [if_pos (by omega)]
  · have := itoa_len n.toNat (by omega)
    rwa [Int.toNat_of_nonneg (by omega)] at this
end Go.Fn
