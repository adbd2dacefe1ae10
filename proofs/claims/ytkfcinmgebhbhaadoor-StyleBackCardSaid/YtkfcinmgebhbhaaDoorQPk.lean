/- Chapter 6, plainly: StyleBack. -/
import Derived.Test.YtkfcinmgebhbhaaDoorQPj
namespace Go.Fn
open Go Go.Lf

theorem num_fits (X : BitVec 64) : Fits (num X) := by
  have h := X.isLt
  have e1 : IntKind.i64.min = -9223372036854775808 := by decide
  have e2 : IntKind.i64.max = 9223372036854775807 := by decide
  unfold Fits
  rw [num_val, e1, e2]
  split <;> omega
/-- a number of seven bits -/
theorem seven {n : Int} (h0 : 0 ≤ n) (h1 : n ≤ 127) : ∀ i, 7 ≤ i → (BitVec.ofInt 64 n).getLsbD i = false := fun i hi => by
  have hx : ((BitVec.ofInt 64 n).toNat : Int) = n := by simp [BitVec.toNat_ofInt]; omega
  rw [← BitVec.testBit_toNat]
  exact Nat.testBit_lt_two_pow (Nat.lt_of_lt_of_le (show (BitVec.ofInt 64 n).toNat < 2 ^ 7 by omega) (Nat.pow_le_pow_right (by omega) hi))
theorem seven_of (X : BitVec 64) (h : ∀ i, 7 ≤ i → X.getLsbD i = false) : 0 ≤ num X ∧ num X ≤ 127 := by
  have : X.toNat < 2 ^ 7 := Nat.lt_pow_two_of_testBit _ fun i hi => by rw [BitVec.testBit_toNat]; exact h i hi
  rw [num_val]
  split <;> omega
theorem fits127 {n : Int} (h0 : 0 ≤ n) (h1 : n ≤ 127) : Fits n := by
  have e1 : IntKind.i64.min = -9223372036854775808 := by decide
  have e2 : IntKind.i64.max = 9223372036854775807 := by decide
  unfold Fits
  rw [e1, e2]
  omega
theorem ofInt_pow : ∀ i : Nat, i < 7 → BitVec.ofInt 64 (2 ^ i : Int) = BitVec.twoPow 64 i := lt7 (by decide) (by decide) (by decide) (by decide) (by decide) (by decide) (by decide)
def Good (c : Chg) : Prop := (0 ≤ c.1 ∧ c.1 ≤ 127) ∧ (0 ≤ c.2.1 ∧ c.2.1 ≤ 127) ∧ (BitVec.ofInt 64 c.1 &&& BitVec.ofInt 64 c.2.1) = 0#64 ∧ -1 ≤ c.2.2.1 ∧ c.2.2.1 ≤ 15
theorem good_chg {c : Chg} : Good c ↔ chgS c = 0 := by
  have hz : Go.Lf.bits .and .i64 c.1 c.2.1 = 0 ↔ (BitVec.ofInt 64 c.1 &&& BitVec.ofInt 64 c.2.1) = 0#64 := by rw [bits_and, num_zero]
  unfold Good chgS
  constructor
  · rintro ⟨⟨h1, h2⟩, ⟨h3, h4⟩, h5, h6⟩
    rw [if_pos ⟨h1, h2, h3, h4, hz.2 h5⟩, if_pos h6]
  · intro h
    split at h
    · rename_i h1
      split at h
      · rename_i h2
        exact ⟨⟨h1.1, h1.2.1⟩, ⟨h1.2.2.1, h1.2.2.2.1⟩, hz.1 h1.2.2.2.2, h2⟩
      · omega
    · omega
theorem or_seven {n : Int} (h0 : 0 ≤ n) (h1 : n ≤ 127) {i : Nat} (hi : i < 7) : 0 ≤ Go.Lf.bits .or .i64 n (2 ^ i : Int) ∧ Go.Lf.bits .or .i64 n (2 ^ i : Int) ≤ 127 := by
  rw [bits_or]
  refine seven_of _ fun j hj => ?_
  rw [BitVec.getLsbD_or, seven h0 h1 j hj, ofInt_pow i hi, BitVec.getLsbD_twoPow]
  have : ¬ i = j := by omega
  simp [this]
theorem and_or_zero {X Y : BitVec 64} {i : Nat} (h : X &&& Y = 0#64) (hb : (X ||| Y).getLsbD i = false) : (X ||| BitVec.twoPow 64 i) &&& Y = 0#64 := by
  apply BitVec.eq_of_getLsbD_eq
  intro j hj
  have h1 := congrArg (fun x : BitVec 64 => x.getLsbD j) h
  simp only [BitVec.getLsbD_and, BitVec.getLsbD_zero] at h1
  rw [BitVec.getLsbD_and, BitVec.getLsbD_or, BitVec.getLsbD_twoPow, BitVec.getLsbD_zero]
  by_cases hij : i = j
  · subst hij
    rw [BitVec.getLsbD_or] at hb
    have : Y.getLsbD i = false := by revert hb; cases X.getLsbD i <;> simp
    simp [this]
  · simp [hij, h1]
theorem attrS_good {c c' : Chg} {w : Bs} (h : Good c) (ha : attrS c w = some c') : Good c' := by
  obtain ⟨on, off, col, ⟨⟩⟩ := c
  cases w with
  | nil => cases ha
  | cons s a =>
    unfold attrS at ha
    dsimp only at ha
    obtain ⟨h1, h2, h3, h4⟩ := h
    dsimp only at h1 h2 h3 h4
    cases h7 : at7 0 W7 a with
    | none => rw [h7] at ha; cases ha
    | some i =>
      rw [h7] at ha
      have hi : i < 7 := (at7_lt W7 0 a i h7).2
      dsimp only at ha
      split at ha
      · cases ha
      · rename_i hb
        have hb : (BitVec.ofInt 64 on ||| BitVec.ofInt 64 off).getLsbD i = false := by simpa using hb
        split at ha
        · injection ha with ha; subst ha
          refine ⟨or_seven h1.1 h1.2 hi, h2, ?_, h4⟩
          show (BitVec.ofInt 64 (Go.Lf.bits .or .i64 on (2 ^ i : Int)) &&& BitVec.ofInt 64 off) = 0#64
          rw [bits_or, num_inj, ofInt_pow i hi]
          exact and_or_zero h3 hb
        · split at ha
          · injection ha with ha; subst ha
            refine ⟨h1, or_seven h2.1 h2.2 hi, ?_, h4⟩
            show (BitVec.ofInt 64 on &&& BitVec.ofInt 64 (Go.Lf.bits .or .i64 off (2 ^ i : Int))) = 0#64
            rw [bits_or, num_inj, ofInt_pow i hi, BitVec.and_comm]
            exact and_or_zero (by rw [BitVec.and_comm]; exact h3) (by rw [BitVec.or_comm]; exact hb)
          · cases ha
theorem pw_good : ∀ (r : List Bs) (p : Bool) (st st' : Sty), Good st.2.2.1 → pw p st r = some st' → Good st'.2.2.1 ∧ st'.1 = st.1 ∧ st'.2.1 = st.2.1
  | [], false, st, st', h, hp => by injection hp with hp; subst hp; exact ⟨h, rfl, rfl⟩
  | [], true, st, st', h, hp => by cases hp
  | w :: r, true, st, st', h, hp => by
    unfold pw at hp
    cases hc : colS w with
    | none => rw [hc] at hp; cases hp
    | some n =>
      rw [hc] at hp
      dsimp only at hp
      split at hp
      · have := (colS_some hc).1
        have hg : Good (st.2.2.1.1, st.2.2.1.2.1, (n : Int), ()) := ⟨h.1, h.2.1, h.2.2.1, by show -1 ≤ (n : Int); omega, by show (n : Int) ≤ 15; omega⟩
        exact pw_good r false (st.1, st.2.1, (st.2.2.1.1, st.2.2.1.2.1, (n : Int), ()), ()) st' hg hp
      · cases hp
  | w :: r, false, st, st', h, hp => by
    unfold pw at hp
    split at hp
    · exact pw_good r true st st' h hp
    · cases ha : attrS st.2.2.1 w with
      | none => rw [ha] at hp; cases hp
      | some c =>
        rw [ha] at hp
        exact pw_good r false (st.1, st.2.1, c, ()) st' (attrS_good h ha) hp

/-- words with a blank ahead of each -/
def spaced : List Bs → Bs
  | [] => []
  | w :: r => 32 :: (w ++ spaced r)
theorem spaced_app : ∀ a b : List Bs, spaced (a ++ b) = spaced a ++ spaced b
  | [], b => rfl
  | w :: a, b => by
    have e : ∀ (x : Bs) (y : List Bs), spaced (x :: y) = 32 :: (x ++ spaced y) := fun _ _ => rfl
    rw [List.cons_append, e, e, spaced_app a b]
    simp [List.append_assoc]
def Word (w : Bs) : Prop := w ≠ [] ∧ ∀ b ∈ w, b.toNat ≠ 32
theorem sp_spaced : ∀ (ws : List Bs) (acc : List Bs) (cur : Bs), cur ≠ [] → (∀ w ∈ ws, Word w) → sp acc cur (spaced ws) = acc ++ cur :: ws
  | [], acc, cur, hc, _ => by simp [spaced, sp, shut, hc]
  | w :: ws, acc, cur, hc, h => by
    have hw := h w List.mem_cons_self
    unfold spaced
    rw [sp_cons, if_pos (by decide), sp_skip w _ _ _ hw.2, List.nil_append, sp_spaced ws _ w hw.1 fun x hx => h x (List.mem_cons_of_mem _ hx)]
    simp [shut, hc]
def wordsW (bit : Nat → Bool) (c : UInt8) : Nat → List Bs → List Bs
  | _, [] => []
  | i, x :: r => (if bit i then [c :: x] else []) ++ wordsW bit c (i + 1) r
theorem bitsW_spaced (bit : Nat → Bool) (c : UInt8) : ∀ (l : List Bs) (i : Nat), bitsW bit [32, c] i l = spaced (wordsW bit c i l)
  | [], i => rfl
  | x :: r, i => by
    unfold bitsW wordsW
    rw [spaced_app, bitsW_spaced bit c r (i + 1)]
    cases bit i <;> simp [spaced]
theorem wordsW_mem (bit : Nat → Bool) (c : UInt8) : ∀ (l : List Bs) (i : Nat) (w : Bs), w ∈ wordsW bit c i l → ∃ x ∈ l, w = c :: x
  | [], i, w, h => by cases h
  | x :: r, i, w, h => by
    unfold wordsW at h
    rcases List.mem_append.1 h with h | h
    · cases hb : bit i with
      | true => rw [hb] at h; exact ⟨x, List.mem_cons_self, List.mem_singleton.1 h⟩
      | false => rw [hb] at h; cases h
    · obtain ⟨y, hy, e⟩ := wordsW_mem bit c r (i + 1) w h
      exact ⟨y, List.mem_cons_of_mem _ hy, e⟩
theorem W7_clean : ∀ x ∈ W7, ∀ b ∈ x, b.toNat ≠ 32 := by decide
theorem wordsW_word (bit : Nat → Bool) (c : UInt8) (hc : c.toNat ≠ 32) : ∀ w ∈ wordsW bit c 0 W7, Word w := fun w hw => by
  obtain ⟨x, hx, rfl⟩ := wordsW_mem bit c W7 0 w hw
  refine ⟨by simp, fun b hb => ?_⟩
  rcases List.mem_cons.1 hb with rfl | hb
  · exact hc
  · exact W7_clean x hx b hb
/-- bits, one by one -/
def orW (bit : Nat → Bool) : Nat → List Bs → BitVec 64 → BitVec 64
  | _, [], A => A
  | i, _ :: r, A => orW bit (i + 1) r (if bit i then A ||| BitVec.twoPow 64 i else A)
theorem orW_bit (bit : Nat → Bool) : ∀ (l : List Bs) (i : Nat) (A : BitVec 64) (j : Nat), i + l.length ≤ 64 → (orW bit i l A).getLsbD j = (A.getLsbD j || (decide (i ≤ j) && decide (j < i + l.length) && bit j))
  | [], i, A, j, _ => by
    have : (decide (i ≤ j) && decide (j < i + 0) && bit j) = false := by
      by_cases h : i ≤ j
      · have : ¬ j < i + 0 := by omega
        rw [decide_eq_false this]; simp
      · rw [decide_eq_false h]; rfl
    unfold orW
    rw [List.length_nil, this]; simp
  | x :: r, i, A, j, hl => by
    rw [List.length_cons] at hl ⊢
    unfold orW
    rw [orW_bit bit r (i + 1) _ j (by omega)]
    by_cases hij : i = j
    · subst hij
      have h1 : ¬ (i + 1 ≤ i) := by omega
      have h2 : i < i + (r.length + 1) := by omega
      have h3 : i < 64 := by omega
      cases hb : bit i <;> simp [h1, h2, hb, BitVec.getLsbD_twoPow, h3]
    · have h1 : (i + 1 ≤ j) ↔ (i ≤ j) := by omega
      have h2 : (j < i + 1 + r.length) ↔ (j < i + (r.length + 1)) := by omega
      have h3 : ¬ i = j := hij
      cases hb : bit i <;> simp [h1, h2, hb, BitVec.getLsbD_twoPow, h3]
theorem orW_all {n : Int} (h0 : 0 ≤ n) (h1 : n ≤ 127) : num (orW (bitN n) 0 W7 0#64) = n := by
  have : orW (bitN n) 0 W7 0#64 = BitVec.ofInt 64 n := by
    apply BitVec.eq_of_getLsbD_eq
    intro j hj
    rw [orW_bit _ _ _ _ _ (by show 0 + 7 ≤ 64; omega), BitVec.getLsbD_zero]
    have e : W7.length = 7 := rfl
    rw [e]
    by_cases h7 : j < 7
    · simp [h7, bitN]
    · rw [seven h0 h1 j (by omega)]
      simp [h7]
  rw [this, num_of (fits127 h0 h1)]
theorem at7_W7 : ∀ (i : Nat) (x : Bs), W7[i]? = some x → at7 0 W7 x = some i := by
  have h : ∀ i, i < 7 → at7 0 W7 (W7[i]?.getD []) = some i := lt7 rfl rfl rfl rfl rfl rfl rfl
  intro i x hx
  have hi : i < 7 := (List.getElem?_eq_some_iff.1 hx).1
  have := h i hi
  rwa [hx] at this
theorem sign_ne_color {c : UInt8} (hc : c.toNat ≠ 99) (x : Bs) : ¬ (c :: x = COLOR) := fun e => by
  injection e with e _
  exact hc (by rw [e]; rfl)
theorem pw_on (nm bs : Bs) (col : Int) (bit : Nat → Bool) (off : BitVec 64) (rest : List Bs) : ∀ (m i : Nat) (A : BitVec 64), i + m = 7 → (∀ j, i ≤ j → bit j = true → (A ||| off).getLsbD j = false) →
    pw false (nm, bs, (num A, num off, col, ()), ()) (wordsW bit 43 i (W7.drop i) ++ rest) = pw false (nm, bs, (num (orW bit i (W7.drop i) A), num off, col, ()), ()) rest
  | 0, i, A, hi, _ => by
    have : i = 7 := by omega
    subst this
    rfl
  | m + 1, i, A, hi, hA => by
    have hlt : i < W7.length := by show i < 7; omega
    have hd : W7.drop i = W7[i] :: W7.drop (i + 1) := List.drop_eq_getElem_cons hlt
    rw [hd]
    unfold wordsW orW
    cases hb : bit i with
    | false =>
      simp only [Bool.false_eq_true, if_false, List.nil_append]
      exact pw_on nm bs col bit off rest m (i + 1) A (by omega) fun j hj => hA j (by omega)
    | true =>
      simp only [if_true, List.cons_append, List.nil_append]
      rw [show ∀ st w r, pw false st (w :: r) = if w = COLOR then pw true st r else match attrS st.2.2.1 w with | some c => pw false (st.1, st.2.1, c, ()) r | none => none from fun _ _ _ => rfl, if_neg (sign_ne_color (by decide) _)]
      have ha : attrS (num A, num off, col, ()) (43 :: W7[i]) = some (num (A ||| BitVec.twoPow 64 i), num off, col, ()) := by
        unfold attrS
        dsimp only
        rw [at7_W7 i _ (List.getElem?_eq_getElem hlt)]
        dsimp only
        rw [num_inj, num_inj, hA i (Nat.le_refl _) hb, bits_or, num_inj, ofInt_pow i hlt]
        rfl
      dsimp only
      rw [ha]
      exact pw_on nm bs col bit off rest m (i + 1) (A ||| BitVec.twoPow 64 i) (by omega) fun j hj hbj => by
        have h1 := hA j (by omega) hbj
        have h2 : ¬ i = j := by omega
        rw [BitVec.getLsbD_or] at h1
        rw [BitVec.getLsbD_or, BitVec.getLsbD_or, BitVec.getLsbD_twoPow]
        simpa [h2] using h1
theorem pw_off (nm bs : Bs) (col : Int) (bit : Nat → Bool) (on : BitVec 64) (rest : List Bs) : ∀ (m i : Nat) (A : BitVec 64), i + m = 7 → (∀ j, i ≤ j → bit j = true → (on ||| A).getLsbD j = false) →
    pw false (nm, bs, (num on, num A, col, ()), ()) (wordsW bit 45 i (W7.drop i) ++ rest) = pw false (nm, bs, (num on, num (orW bit i (W7.drop i) A), col, ()), ()) rest
  | 0, i, A, hi, _ => by
    have : i = 7 := by omega
    subst this
    rfl
  | m + 1, i, A, hi, hA => by
    have hlt : i < W7.length := by show i < 7; omega
    have hd : W7.drop i = W7[i] :: W7.drop (i + 1) := List.drop_eq_getElem_cons hlt
    rw [hd]
    unfold wordsW orW
    cases hb : bit i with
    | false =>
      simp only [Bool.false_eq_true, if_false, List.nil_append]
      exact pw_off nm bs col bit on rest m (i + 1) A (by omega) fun j hj => hA j (by omega)
    | true =>
      simp only [if_true, List.cons_append, List.nil_append]
      rw [show ∀ st w r, pw false st (w :: r) = if w = COLOR then pw true st r else match attrS st.2.2.1 w with | some c => pw false (st.1, st.2.1, c, ()) r | none => none from fun _ _ _ => rfl, if_neg (sign_ne_color (by decide) _)]
      have ha : attrS (num on, num A, col, ()) (45 :: W7[i]) = some (num on, num (A ||| BitVec.twoPow 64 i), col, ()) := by
        unfold attrS
        dsimp only
        rw [at7_W7 i _ (List.getElem?_eq_getElem hlt)]
        dsimp only
        rw [num_inj, num_inj, hA i (Nat.le_refl _) hb, bits_or (num A), num_inj, ofInt_pow i hlt]
        rfl
      dsimp only
      rw [ha]
      exact pw_off nm bs col bit on rest m (i + 1) (A ||| BitVec.twoPow 64 i) (by omega) fun j hj hbj => by
        have h1 := hA j (by omega) hbj
        have h2 : ¬ i = j := by omega
        rw [BitVec.getLsbD_or] at h1
        rw [BitVec.getLsbD_or, BitVec.getLsbD_or, BitVec.getLsbD_twoPow]
        simpa [h2] using h1
end Go.Fn
