/- Plain words: bytecode. -/
import Derived.Test.YtpaecijilnfkhaaDoorEng

namespace Go.Proofs.YtpaecijilnfkhaaDoor
open Go Go.Eng Go.RowKit

/-- octet's number: of the bytes that stand there, at the i-th group, with what was taken so far. -/
def numS : List UInt8 → Nat → Nat → Except Int (Nat × Nat)
  | [], _, _ => .error 30
  | x :: r, i, acc =>
    if 9 < i ∨ (i = 9 ∧ 1 < x.toNat) then .error 31
    else if x.toNat < 128 then (if x.toNat = 0 ∧ 0 < i then .error 31 else .ok (acc + x.toNat * 128 ^ i, i + 1))
    else numS r (i + 1) (acc + (x.toNat % 128) * 128 ^ i)
def numV (l : List UInt8) : Int := match numS l 0 0 with | .ok p => (p.1 : Int) | .error _ => 0
def numL (l : List UInt8) : Int := match numS l 0 0 with | .ok p => (p.2 : Int) | .error _ => 0
def numE (l : List UInt8) : Int := match numS l 0 0 with | .ok _ => 0 | .error e => e

theorem numS_step {x : UInt8} {r : List UInt8} {i acc : Nat} (h1 : ¬ (9 < i)) (h2 : ¬ (i = 9 ∧ 1 < x.toNat)) (h3 : ¬ x.toNat < 128) : numS (x :: r) i acc = numS r (i + 1) (acc + (x.toNat % 128) * 128 ^ i) := by
  rw [numS, if_neg (by omega), if_neg h3]
theorem numS_bad {x : UInt8} {r : List UInt8} {i acc : Nat} (h : 9 < i ∨ (i = 9 ∧ 1 < x.toNat)) : numS (x :: r) i acc = .error 31 := by
  rw [numS, if_pos h]
theorem numS_zero {x : UInt8} {r : List UInt8} {i acc : Nat} (h1 : ¬ (9 < i ∨ (i = 9 ∧ 1 < x.toNat))) (h2 : x.toNat < 128) (h3 : x.toNat = 0 ∧ 0 < i) : numS (x :: r) i acc = .error 31 := by
  rw [numS, if_neg h1, if_pos h2, if_pos h3]
theorem numS_end {x : UInt8} {r : List UInt8} {i acc : Nat} (h1 : ¬ (9 < i ∨ (i = 9 ∧ 1 < x.toNat))) (h2 : x.toNat < 128) (h3 : ¬ (x.toNat = 0 ∧ 0 < i)) : numS (x :: r) i acc = .ok (acc + x.toNat * 128 ^ i, i + 1) := by
  rw [numS, if_neg h1, if_pos h2, if_neg h3]
/-- the accumulated part stays below what the next group is worth -/
theorem acc_lt {acc i y : Nat} (h : acc < 128 ^ i) (hy : y < 128) : acc + y * 128 ^ i < 128 ^ (i + 1) := by
  rw [Nat.pow_succ]
  have : y * 128 ^ i ≤ 127 * 128 ^ i := Nat.mul_le_mul_right _ (by omega)
  omega
theorem pow128 (i : Nat) : (128 : Nat) ^ i = 2 ^ (7 * i) := by rw [Nat.pow_mul]
theorem pow_le_63 {i : Nat} (h : i ≤ 9) : (128 : Nat) ^ i ≤ 9223372036854775808 := by
  have : (128 : Nat) ^ i ≤ 128 ^ 9 := Nat.pow_le_pow_right (by omega) h
  omega
theorem grp_lt {acc i x : Nat} (h : acc < 128 ^ i) (hi : i ≤ 9) (hx : ¬ (i = 9 ∧ 1 < x)) : acc + x % 128 * 128 ^ i < 18446744073709551616 := by
  by_cases h9 : i = 9
  · subst h9
    have : x % 128 ≤ 1 := by omega
    have : x % 128 * 128 ^ 9 ≤ 1 * 128 ^ 9 := Nat.mul_le_mul_right _ this
    omega
  · have h1 := acc_lt (y := x % 128) h (Nat.mod_lt _ (by omega))
    have h2 := pow_le_63 (i := i + 1) (by omega)
    omega
theorem shl_u64 {m i : Nat} (h : m * 128 ^ i < 18446744073709551616) (hi : i ≤ 9) : IntKind.u64.wrap ((m : Int) * 2 ^ (min (7 * (i : Int)).toNat IntKind.u64.bits)) = ((m * 128 ^ i : Nat) : Int) := by
  have h1 : min (7 * (i : Int)).toNat IntKind.u64.bits = 7 * i := by
    have : IntKind.u64.bits = 64 := rfl
    omega
  rw [h1, show ((m : Int) * 2 ^ (7 * i)) = ((m * 128 ^ i : Nat) : Int) by rw [pow128]; simp]
  exact wu64 (by omega) (by omega)
theorem u64_and127 {m : Nat} (hm : m < 18446744073709551616) : Op.intBits .and .u64 (m : Int) 127 = pure (.int .u64 ((m % 128 : Nat) : Int)) := by
  have := eu64_and (m := m) (n := 127) hm (by omega)
  rw [show m &&& 127 = m % 128 from and_low m 7] at this
  exact this
theorem u64_grp {acc y i : Nat} (h : acc < 128 ^ i) (hb : acc + y * 128 ^ i < 18446744073709551616) : Op.intBits .or .u64 (acc : Int) ((y * 128 ^ i : Nat) : Int) = pure (.int .u64 ((acc + y * 128 ^ i : Nat) : Int)) := by
  have := eu64_or (m := acc) (n := y * 128 ^ i) (by omega) (by omega)
  rw [pow128, or_add (by rw [← pow128]; exact h)] at this
  rw [pow128]
  exact this
theorem drop_cons {l : List UInt8} {k : Nat} {x : UInt8} (h : l[k]? = some x) : l.drop k = x :: l.drop (k + 1) := by
  obtain ⟨h1, h2⟩ := List.getElem?_eq_some_iff.1 h
  rw [List.drop_eq_getElem_cons h1, h2]
theorem num_next {l : List UInt8} {k i acc : Nat} {x : UInt8} {r : Except Int (Nat × Nat)} (h : l[k]? = some x) (h4 : numS (l.drop k) i acc = r) (h1 : ¬ (9 < i)) (h2 : ¬ (i = 9 ∧ 1 < x.toNat)) (h3 : ¬ x.toNat < 128) :
    numS (l.drop (k + 1)) (i + 1) (acc + x.toNat % 128 * 128 ^ i) = r := by
  rw [← h4, drop_cons h, numS_step h1 h2 h3]
theorem num_bad {l : List UInt8} {k i acc : Nat} {x : UInt8} {r : Except Int (Nat × Nat)} (h : l[k]? = some x) (h4 : numS (l.drop k) i acc = r) (h1 : 9 < i ∨ (i = 9 ∧ 1 < x.toNat) ∨ (x.toNat = 0 ∧ 0 < i)) : r = .error 31 := by
  rw [← h4, drop_cons h]
  by_cases h2 : 9 < i ∨ (i = 9 ∧ 1 < x.toNat)
  · exact numS_bad h2
  · exact numS_zero h2 (by omega) (by omega)
theorem num_end {l : List UInt8} {k i acc : Nat} {x : UInt8} {r : Except Int (Nat × Nat)} (h : l[k]? = some x) (h4 : numS (l.drop k) i acc = r) (h1 : ¬ (9 < i)) (h2 : ¬ (i = 9 ∧ 1 < x.toNat)) (h3 : x.toNat < 128) (h5 : ¬ (x.toNat = 0 ∧ 0 < i)) :
    r = .ok (acc + x.toNat % 128 * 128 ^ i, i + 1) := by
  rw [← h4, drop_cons h, numS_end (by omega) h3 h5, Nat.mod_eq_of_lt h3]
theorem num_torn {l : List UInt8} {k i acc : Nat} {r : Except Int (Nat × Nat)} (h : l.length ≤ k) (h4 : numS (l.drop k) i acc = r) : r = .error 30 := by
  rw [← h4, List.drop_eq_nil_of_le h]
  rfl

structure InstrS where
  at_ : Int
  long : Int
  kind : Int
  n : Int
  widths : List Int
def zeroI : InstrS := ⟨0, 0, 0, 0, []⟩
@[reducible] def instrV (i : InstrS) (A : Option Addr) (c : Nat) : Value := .agg #[.int .i64 i.at_, .int .i64 i.long, .int .i64 i.kind, .int .i64 i.n, .slice A i.widths.length c]
def ints (l : List UInt8) : List Int := l.map fun b => (b.toNat : Int)
theorem ints_length (l : List UInt8) : (ints l).length = l.length := by simp [ints]
/-- the operand is looked at, widths are taken -/
def finS (b : List UInt8) (at_ long kind n : Int) : InstrS × Int :=
  if kind = 1 then (if 16383 < n then (zeroI, 161) else (⟨at_, long, kind, n + 1, []⟩, 0))
  else if kind = 2 ∨ kind = 3 ∨ kind = 4 ∨ kind = 10 then (⟨at_, long, kind, n, []⟩, 0)
  else if kind = 8 then (⟨at_, long, kind, n - 1, []⟩, 0)
  else if kind = 12 then
    (if 16 ≤ n then (zeroI, 161) else if (b.length : Int) - (at_ + long) < n + 1 then (zeroI, 30)
     else (⟨at_, long + (n + 1), kind, 0, ints ((b.drop (at_ + long).toNat).take (n + 1).toNat)⟩, 0))
  else if n ≠ 0 then (zeroI, 161) else (⟨at_, long, kind, 0, []⟩, 0)
section
variable {b : List UInt8} {at_ long kind n : Int}
theorem fin_text (h : kind = 1) (h2 : ¬ 16383 < n) : finS b at_ long kind n = (⟨at_, long, kind, n + 1, []⟩, 0) := by rw [finS, if_pos h, if_neg h2]
theorem fin_textE (h : kind = 1) (h2 : 16383 < n) : finS b at_ long kind n = (zeroI, 161) := by rw [finS, if_pos h, if_pos h2]
theorem fin_num (h : kind = 2 ∨ kind = 3 ∨ kind = 4 ∨ kind = 10) : finS b at_ long kind n = (⟨at_, long, kind, n, []⟩, 0) := by rw [finS, if_neg (by omega), if_pos h]
theorem fin_para (h : kind = 8) : finS b at_ long kind n = (⟨at_, long, kind, n - 1, []⟩, 0) := by rw [finS, if_neg (by omega), if_neg (by omega), if_pos h]
theorem fin_tabE (h : kind = 12) (h2 : 16 ≤ n) : finS b at_ long kind n = (zeroI, 161) := by rw [finS, if_neg (by omega), if_neg (by omega), if_neg (by omega), if_pos h, if_pos h2]
theorem fin_tabT (h : kind = 12) (h2 : ¬ 16 ≤ n) (h3 : (b.length : Int) - (at_ + long) < n + 1) : finS b at_ long kind n = (zeroI, 30) := by
  rw [finS, if_neg (by omega), if_neg (by omega), if_neg (by omega), if_pos h, if_neg h2, if_pos h3]
theorem fin_tab (h : kind = 12) (h2 : ¬ 16 ≤ n) (h3 : ¬ (b.length : Int) - (at_ + long) < n + 1) :
    finS b at_ long kind n = (⟨at_, long + (n + 1), kind, 0, ints ((b.drop (at_ + long).toNat).take (n + 1).toNat)⟩, 0) := by
  rw [finS, if_neg (by omega), if_neg (by omega), if_neg (by omega), if_pos h, if_neg h2, if_neg h3]
theorem fin_nE (h : ¬ (kind = 1 ∨ kind = 2 ∨ kind = 3 ∨ kind = 4 ∨ kind = 8 ∨ kind = 10 ∨ kind = 12)) (h2 : n ≠ 0) : finS b at_ long kind n = (zeroI, 161) := by
  rw [finS, if_neg (by omega), if_neg (by omega), if_neg (by omega), if_neg (by omega), if_pos h2]
theorem fin_n0 (h : ¬ (kind = 1 ∨ kind = 2 ∨ kind = 3 ∨ kind = 4 ∨ kind = 8 ∨ kind = 10 ∨ kind = 12)) (h2 : n = 0) : finS b at_ long kind n = (⟨at_, long, kind, 0, []⟩, 0) := by
  rw [finS, if_neg (by omega), if_neg (by omega), if_neg (by omega), if_neg (by omega), if_neg (by omega)]
end
theorem ints_snoc {l : List UInt8} {k : Nat} {x : UInt8} (h : l[k]? = some x) : icells (ints (l.take k)) ++ [.int .i64 (x.toNat : Int)] = icells (ints (l.take (k + 1))) := by
  rw [List.take_add_one, h]
  simp [icells, ints]

theorem num_facts : ∀ (l : List UInt8) (i acc : Nat), match numS l i acc with | .ok p => i < p.2 ∧ p.2 ≤ i + l.length | .error e => e = 30 ∨ e = 31
  | [], i, acc => .inl rfl
  | x :: r, i, acc => by
    unfold numS
    split
    · rename_i h
      split at h
      · cases h
      · split at h
        · split at h
          · cases h
          · injection h with h
            subst h
            simp
        · have := num_facts r (i + 1) (acc + x.toNat % 128 * 128 ^ i)
          rw [h] at this
          simp only [List.length_cons]
          omega
    · rename_i h
      split at h
      · injection h with h; exact .inr h.symm
      · split at h
        · split at h
          · injection h with h; exact .inr h.symm
          · cases h
        · have := num_facts r (i + 1) (acc + x.toNat % 128 * 128 ^ i)
          rw [h] at this
          exact this
theorem numL_bd (l : List UInt8) : 0 ≤ numL l ∧ numL l ≤ l.length ∧ 0 ≤ numV l ∧ 0 ≤ numE l := by
  have := num_facts l 0 0
  unfold numL numV numE
  split at this <;> simp <;> omega
theorem numE_ne {l : List UInt8} (h : numE l ≠ 0) : numL l = 0 ∧ numV l = 0 := by
  unfold numL numV numE at *
  split at h
  · exact absurd rfl h
  · exact ⟨rfl, rfl⟩
def nextS (b : List UInt8) (at_ : Int) : InstrS × Int :=
  if at_ < 0 ∨ (b.length : Int) ≤ at_ then (zeroI, 1)
  else if ((b[at_.toNat]?).getD 0).toNat / 16 = 0 then (zeroI, 160)
  else if ((b[at_.toNat]?).getD 0).toNat % 16 = 15 then
    (if numE (b.drop (at_.toNat + 1)) ≠ 0 then (zeroI, numE (b.drop (at_.toNat + 1)))
     else if 2147483632 < numV (b.drop (at_.toNat + 1)) then (zeroI, 161)
     else finS b at_ (1 + numL (b.drop (at_.toNat + 1))) ((((b[at_.toNat]?).getD 0).toNat / 16 : Nat) : Int) (numV (b.drop (at_.toNat + 1)) + 15))
  else finS b at_ 1 ((((b[at_.toNat]?).getD 0).toNat / 16 : Nat) : Int) ((((b[at_.toNat]?).getD 0).toNat % 16 : Nat) : Int)
theorem next_rng {b : List UInt8} {at_ : Int} (h : at_ < 0 ∨ (b.length : Int) ≤ at_) : nextS b at_ = (zeroI, 1) := by rw [nextS, if_pos h]
section
variable {b : List UInt8} {k : Nat} {x : UInt8}
theorem next_at (hx : b[k]? = some x) : nextS b (k : Int) = if x.toNat / 16 = 0 then (zeroI, 160)
  else if x.toNat % 16 = 15 then
    (if numE (b.drop (k + 1)) ≠ 0 then (zeroI, numE (b.drop (k + 1)))
     else if 2147483632 < numV (b.drop (k + 1)) then (zeroI, 161)
     else finS b k (1 + numL (b.drop (k + 1))) ((x.toNat / 16 : Nat) : Int) (numV (b.drop (k + 1)) + 15))
  else finS b k 1 ((x.toNat / 16 : Nat) : Int) ((x.toNat % 16 : Nat) : Int) := by
  have hlt := (List.getElem?_eq_some_iff.1 hx).1
  rw [nextS, if_neg (by omega), Int.toNat_natCast, hx]
  rfl
theorem next_op0 (hx : b[k]? = some x) (h : x.toNat / 16 = 0) : nextS b (k : Int) = (zeroI, 160) := by rw [next_at hx, if_pos h]
theorem next_err (hx : b[k]? = some x) (h : ¬ x.toNat / 16 = 0) (h2 : x.toNat % 16 = 15) (h3 : numE (b.drop (k + 1)) ≠ 0) : nextS b (k : Int) = (zeroI, numE (b.drop (k + 1))) := by
  rw [next_at hx, if_neg h, if_pos h2, if_pos h3]
theorem next_big (hx : b[k]? = some x) (h : ¬ x.toNat / 16 = 0) (h2 : x.toNat % 16 = 15) (h3 : ¬ numE (b.drop (k + 1)) ≠ 0) (h4 : 2147483632 < numV (b.drop (k + 1))) : nextS b (k : Int) = (zeroI, 161) := by
  rw [next_at hx, if_neg h, if_pos h2, if_neg h3, if_pos h4]
theorem next_long (hx : b[k]? = some x) (h : ¬ x.toNat / 16 = 0) (h2 : x.toNat % 16 = 15) (h3 : ¬ numE (b.drop (k + 1)) ≠ 0) (h4 : ¬ 2147483632 < numV (b.drop (k + 1))) :
    nextS b (k : Int) = finS b k (1 + numL (b.drop (k + 1))) ((x.toNat / 16 : Nat) : Int) (numV (b.drop (k + 1)) + 15) := by
  rw [next_at hx, if_neg h, if_pos h2, if_neg h3, if_neg h4]
theorem next_short (hx : b[k]? = some x) (h : ¬ x.toNat / 16 = 0) (h2 : ¬ x.toNat % 16 = 15) : nextS b (k : Int) = finS b k 1 ((x.toNat / 16 : Nat) : Int) ((x.toNat % 16 : Nat) : Int) := by
  rw [next_at hx, if_neg h, if_neg h2]
end
theorem shr4 (m : Nat) : ((m : Int)).fdiv (2 ^ (min (4 : Int).toNat IntKind.u8.bits)) = ((m / 16 : Nat) : Int) := by
  have h : min (4 : Int).toNat IntKind.u8.bits = 4 := rfl
  rw [h, Int.fdiv_eq_ediv_of_nonneg _ (by decide)]
  omega
theorem eu8_and15 {m : Nat} (hm : m < 256) : Op.intBits .and .u8 (m : Int) 15 = pure (.int .u8 ((m % 16 : Nat) : Int)) := by
  have := eu8_and (m := m) (n := 15) hm (by omega)
  rw [show m &&& 15 = m % 16 from and_low m 4] at this
  exact this
theorem RdB.tail {w : World} {A : Option Addr} {l : List UInt8} {c a : Nat} (h : RdB w A l) (hc : l.length ≤ c) (ha : a ≤ l.length) : RdB w (cutA A c a 1) (l.drop a) := by
  have := RdB.cut h hc ha (Nat.le_refl _)
  rwa [List.take_of_length_le (by simp)] at this

@[reducible] def icell (q : InstrS × Option Addr × Nat) : List Value := [.int .i64 q.1.at_, .int .i64 q.1.long, .int .i64 q.1.kind, .int .i64 q.1.n, .slice q.2.1 q.1.widths.length q.2.2]
def mcells (M : List (InstrS × Option Addr × Nat)) : List Value := M.flatMap icell
theorem mcells_snoc (M : List (InstrS × Option Addr × Nat)) (q : InstrS × Option Addr × Nat) : mcells M ++ icell q = mcells (M ++ [q]) := by simp [mcells]
/-- A slice reads as instructions. -/
def RdM (w : World) (A : Option Addr) (M : List (InstrS × Option Addr × Nat)) : Prop := Rd w A 5 M.length (mcells M) ∧ ∀ q ∈ M, RdI w q.2.1 q.1.widths
theorem RdM.nil {w : World} {A : Option Addr} : RdM w A [] := ⟨Rd.nil, fun q hq => absurd hq (by simp)⟩
theorem fin_ok {b : List UInt8} {at_ long kind n : Int} (h : (finS b at_ long kind n).2 = 0) (hn : 0 ≤ n) (h1 : at_ + long ≤ b.length) :
    (finS b at_ long kind n).1.at_ = at_ ∧ (finS b at_ long kind n).1.kind = kind ∧ long ≤ (finS b at_ long kind n).1.long ∧ at_ + (finS b at_ long kind n).1.long ≤ b.length := by
  unfold finS at *
  repeat' split at h
  all_goals (try (simp at h))
  all_goals simp [*]
  all_goals omega
theorem next_ok {b : List UInt8} {k : Nat} (h : (nextS b (k : Int)).2 = 0) :
    (nextS b (k : Int)).1.at_ = k ∧ 1 ≤ (nextS b (k : Int)).1.long ∧ (k : Int) + (nextS b (k : Int)).1.long ≤ b.length := by
  by_cases hk : k < b.length
  · obtain ⟨x, hx⟩ : ∃ x, b[k]? = some x := ⟨_, List.getElem?_eq_getElem hk⟩
    have hnb := numL_bd (b.drop (k + 1))
    rw [List.length_drop] at hnb
    by_cases h1 : x.toNat / 16 = 0
    · rw [next_op0 hx h1] at h; simp at h
    · by_cases h2 : x.toNat % 16 = 15
      · by_cases h3 : numE (b.drop (k + 1)) ≠ 0
        · rw [next_err hx h1 h2 h3] at h; exact absurd h h3
        · by_cases h4 : 2147483632 < numV (b.drop (k + 1))
          · rw [next_big hx h1 h2 h3 h4] at h; simp at h
          · rw [next_long hx h1 h2 h3 h4] at h ⊢
            have := fin_ok h (by omega) (by omega)
            omega
      · rw [next_short hx h1 h2] at h ⊢
        have := fin_ok h (by omega) (by omega)
        omega
  · rw [next_rng (by omega)] at h; simp at h

/-! instructions, one behind the other -/
def ahead (i : InstrS) (r : List InstrS × Int × Int) : List InstrS × Int × Int := if r.2.2 = 0 then (i :: r.1, r.2) else r
def instrsF : Nat → List UInt8 → Nat → List InstrS × Int × Int
  | 0, b, _ => ([], b.length, 162)
  | f + 1, b, k =>
    if k < b.length then
      (if (nextS b k).2 ≠ 0 then ([], k, (nextS b k).2)
       else if (nextS b k).1.kind = 15 then
         (if (k : Int) + (nextS b k).1.long < b.length then ([], k + (nextS b k).1.long, 162) else ([(nextS b k).1], 0, 0))
       else ahead (nextS b k).1 (instrsF f b (k + (nextS b k).1.long.toNat)))
    else ([], b.length, 162)
def behind (acc : List InstrS) (r : List InstrS × Int × Int) : List InstrS × Int × Int := if r.2.2 = 0 then (acc ++ r.1, r.2) else r
def instrsS (b : List UInt8) : List InstrS × Int × Int := if 1048576 < b.length then ([], 0, 2) else instrsF b.length b 0
section
variable {b : List UInt8} {k f : Nat} {acc : List InstrS} {R : List InstrS × Int × Int}
theorem ins_end (h : behind acc (instrsF f b k) = R) (hf : b.length ≤ k + f) (hk : ¬ k < b.length) : R = ([], (b.length : Int), 162) := by
  rw [← h]
  cases f with
  | zero => rfl
  | succ f => rw [instrsF, if_neg hk]; rfl
theorem ins_err (h : behind acc (instrsF f b k) = R) (hf : b.length ≤ k + f) (hk : k < b.length) (he : (nextS b k).2 ≠ 0) : R = ([], (k : Int), (nextS b k).2) := by
  rw [← h]
  cases f with
  | zero => omega
  | succ f => rw [instrsF, if_pos hk, if_pos he, behind, if_neg he]
theorem ins_more (h : behind acc (instrsF f b k) = R) (hf : b.length ≤ k + f) (hk : k < b.length) (he : ¬ (nextS b k).2 ≠ 0) (h15 : (nextS b k).1.kind = 15) (hm : (k : Int) + (nextS b k).1.long < b.length) :
    R = ([], k + (nextS b k).1.long, 162) := by
  rw [← h]
  cases f with
  | zero => omega
  | succ f => rw [instrsF, if_pos hk, if_neg he, if_pos h15, if_pos hm, behind, if_neg (show ¬ (162 : Int) = 0 by decide)]
theorem ins_halt (h : behind acc (instrsF f b k) = R) (hf : b.length ≤ k + f) (hk : k < b.length) (he : ¬ (nextS b k).2 ≠ 0) (h15 : (nextS b k).1.kind = 15) (hm : ¬ (k : Int) + (nextS b k).1.long < b.length) :
    R = (acc ++ [(nextS b k).1], 0, 0) := by
  rw [← h]
  cases f with
  | zero => omega
  | succ f => rw [instrsF, if_pos hk, if_neg he, if_pos h15, if_neg hm, behind, if_pos rfl]
theorem ins_next (h : behind acc (instrsF (f + 1) b k) = R) (hk : k < b.length) (he : ¬ (nextS b k).2 ≠ 0) (h15 : ¬ (nextS b k).1.kind = 15) :
    behind (acc ++ [(nextS b k).1]) (instrsF f b (k + (nextS b k).1.long.toNat)) = R := by
  rw [← h, instrsF, if_pos hk, if_neg he, if_neg h15]
  unfold behind ahead
  by_cases h0 : (instrsF f b (k + (nextS b k).1.long.toNat)).2.2 = 0
  · simp [h0]
  · simp [h0]
end

/-! the checker's walk -/
structure FrameS where
  kind : Int
  items : Int
  rows : Int
  cells : Int
  wide : Int
def fcells (f : FrameS) : List Value := [.int .i64 f.kind, .int .i64 f.items, .int .i64 f.rows, .int .i64 f.cells, .int .i64 f.wide]
theorem fcells_length (f : FrameS) : (fcells f).length = 5 := rfl
structure WalkS where
  stack : List FrameS
  depth : Nat
  inPara : Int
  marks : Int
  links : Int
  last : Int
  s : List UInt8
  styles : Int
  topics : Int
def wtail (depth : Nat) (inPara marks links last : Int) (s : List UInt8) (styles topics : Int) : List Value :=
  [.int .i64 depth, .int .i64 inPara, .int .i64 marks, .int .i64 links, .int .i64 last, str s, .int .i64 styles, .int .i64 topics]
def wcells (k : WalkS) : List Value := flat fcells k.stack ++ wtail k.depth k.inPara k.marks k.links k.last k.s k.styles k.topics
section
variable {st : List FrameS} {d : Nat} {p m li la : Int} {s : List UInt8} {sy tp : Int}
theorem wstack_length (hk : st.length = 32) : (flat fcells st).length = 160 := by rw [flat_length fcells_length, hk]
theorem wtail_get (hk : st.length = 32) {j : Nat} {v : Value} (hv : (wtail d p m li la s sy tp)[j]? = some v) : (wcells ⟨st, d, p, m, li, la, s, sy, tp⟩)[160 + j]? = some v := by
  unfold wcells
  rw [List.getElem?_append_right (by rw [wstack_length hk]; omega), wstack_length hk, show 160 + j - 160 = j by omega]
  exact hv
theorem w_depth (hk : st.length = 32) : (wcells ⟨st, d, p, m, li, la, s, sy, tp⟩)[160]? = some (.int .i64 d) := wtail_get hk (j := 0) rfl
theorem w_para (hk : st.length = 32) : (wcells ⟨st, d, p, m, li, la, s, sy, tp⟩)[161]? = some (.int .i64 p) := wtail_get hk (j := 1) rfl
theorem w_marks (hk : st.length = 32) : (wcells ⟨st, d, p, m, li, la, s, sy, tp⟩)[162]? = some (.int .i64 m) := wtail_get hk (j := 2) rfl
theorem w_links (hk : st.length = 32) : (wcells ⟨st, d, p, m, li, la, s, sy, tp⟩)[163]? = some (.int .i64 li) := wtail_get hk (j := 3) rfl
theorem w_last (hk : st.length = 32) : (wcells ⟨st, d, p, m, li, la, s, sy, tp⟩)[164]? = some (.int .i64 la) := wtail_get hk (j := 4) rfl
theorem w_s (hk : st.length = 32) : (wcells ⟨st, d, p, m, li, la, s, sy, tp⟩)[165]? = some (str s) := wtail_get hk (j := 5) rfl
theorem w_styles (hk : st.length = 32) : (wcells ⟨st, d, p, m, li, la, s, sy, tp⟩)[166]? = some (.int .i64 sy) := wtail_get hk (j := 6) rfl
theorem w_topics (hk : st.length = 32) : (wcells ⟨st, d, p, m, li, la, s, sy, tp⟩)[167]? = some (.int .i64 tp) := wtail_get hk (j := 7) rfl
theorem w_frame {i j : Nat} {f : FrameS} {v : Value} (hf : st[i]? = some f) (hv : (fcells f)[j]? = some v) : (wcells ⟨st, d, p, m, li, la, s, sy, tp⟩)[i * 5 + j]? = some v := flat_get fcells_length hf hv
theorem wp_at (hk : st.length = 32) {j : Nat} {vs t' : List Value} (h : LPut (wtail d p m li la s sy tp) j vs t') : LPut (wcells ⟨st, d, p, m, li, la, s, sy, tp⟩) (160 + j) vs (flat fcells st ++ t') := by
  have := LPut.right (a := flat fcells st) h
  rwa [wstack_length hk] at this
theorem wp_depth {n : Nat} (hk : st.length = 32) : LPut (wcells ⟨st, d, p, m, li, la, s, sy, tp⟩) 160 [.int .i64 n] (wcells ⟨st, n, p, m, li, la, s, sy, tp⟩) := wp_at hk (j := 0) (by repeat constructor)
theorem wp_para {n : Int} (hk : st.length = 32) : LPut (wcells ⟨st, d, p, m, li, la, s, sy, tp⟩) 161 [.int .i64 n] (wcells ⟨st, d, n, m, li, la, s, sy, tp⟩) := wp_at hk (j := 1) (by repeat constructor)
theorem wp_marks {n : Int} (hk : st.length = 32) : LPut (wcells ⟨st, d, p, m, li, la, s, sy, tp⟩) 162 [.int .i64 n] (wcells ⟨st, d, p, n, li, la, s, sy, tp⟩) := wp_at hk (j := 2) (by repeat constructor)
theorem wp_links {n : Int} (hk : st.length = 32) : LPut (wcells ⟨st, d, p, m, li, la, s, sy, tp⟩) 163 [.int .i64 n] (wcells ⟨st, d, p, m, n, la, s, sy, tp⟩) := wp_at hk (j := 3) (by repeat constructor)
theorem wp_last {n : Int} (hk : st.length = 32) : LPut (wcells ⟨st, d, p, m, li, la, s, sy, tp⟩) 164 [.int .i64 n] (wcells ⟨st, d, p, m, li, n, s, sy, tp⟩) := wp_at hk (j := 4) (by repeat constructor)
theorem wp_s {l : List UInt8} (hk : st.length = 32) : LPut (wcells ⟨st, d, p, m, li, la, s, sy, tp⟩) 165 [str l] (wcells ⟨st, d, p, m, li, la, l, sy, tp⟩) := wp_at hk (j := 5) (by repeat constructor)
theorem wp_frame {i j : Nat} {f f' : FrameS} {vs : List Value} (hf : st[i]? = some f) (hv : LPut (fcells f) j vs (fcells f')) : LPut (wcells ⟨st, d, p, m, li, la, s, sy, tp⟩) (i * 5 + j) vs (wcells ⟨st.set i f', d, p, m, li, la, s, sy, tp⟩) :=
  flat_put fcells_length hf hv
end
def zf (kind wide : Int) : FrameS := ⟨kind, 0, 0, 0, wide⟩
def WalkS.push (k : WalkS) (f : FrameS) : WalkS := { k with stack := k.stack.set k.depth f, depth := k.depth + 1 }
def WalkS.top (k : WalkS) : Option FrameS := if k.depth = 0 then none else k.stack[k.depth - 1]?
def WalkS.put (k : WalkS) (f : FrameS) : WalkS := { k with stack := k.stack.set (k.depth - 1) f }
/-- within a paragraph -/
def innerS (k : WalkS) (kind : Int) : Bool × WalkS :=
  if kind = 1 then (decide (k.last ≠ 1), k)
  else if kind = 6 ∨ kind = 7 then (true, k)
  else if kind = 3 ∨ kind = 4 then
    (if 0 < k.links then (false, k) else if 16 ≤ k.marks then (false, k) else (true, ⟨k.stack.set k.depth (zf kind 0), k.depth + 1, k.inPara, k.marks + 1, k.links + 1, k.last, k.s, k.styles, k.topics⟩))
  else if kind = 2 then
    (if 16 ≤ k.marks then (false, k) else (true, ⟨k.stack.set k.depth (zf kind 0), k.depth + 1, k.inPara, k.marks + 1, k.links, k.last, k.s, k.styles, k.topics⟩))
  else if kind = 5 then
    (if k.marks = 0 then (false, k)
     else (true, ⟨k.stack, k.depth - 1, k.inPara, k.marks - 1, (match k.top with | some t => if t.kind ≠ 2 then k.links - 1 else k.links | none => k.links), k.last, k.s, k.styles, k.topics⟩))
  else if kind = 9 then
    (if 0 < k.marks then (false, k)
     else (true, match (⟨k.stack, k.depth - 1, 0, k.marks, k.links, k.last, k.s, k.styles, k.topics⟩ : WalkS).top with
       | some t => if t.kind = 12 then ⟨k.stack.set (k.depth - 1 - 1) ⟨t.kind, t.items, t.rows, t.cells + 1, t.wide⟩, k.depth - 1, 0, k.marks, k.links, k.last, k.s, k.styles, k.topics⟩
         else ⟨k.stack, k.depth - 1, 0, k.marks, k.links, k.last, k.s, k.styles, k.topics⟩
       | none => ⟨k.stack, k.depth - 1, 0, k.marks, k.links, k.last, k.s, k.styles, k.topics⟩))
  else (false, k)
/-- The walk may be here behind m instructions. -/
structure WOk (k : WalkS) (m : Nat) : Prop where
  len : k.stack.length = 32
  out : k.inPara ≠ 1 → k.marks = 0 ∧ k.depth ≤ 8
  inn : k.inPara = 1 → 0 ≤ k.marks ∧ k.marks ≤ 16 ∧ k.marks + 1 ≤ k.depth ∧ k.depth ≤ k.marks + 9
  links : -(m : Int) ≤ k.links ∧ k.links ≤ m
  fr : ∀ f ∈ k.stack, 0 ≤ f.items ∧ f.items ≤ m ∧ 0 ≤ f.rows ∧ f.rows ≤ m ∧ 0 ≤ f.cells ∧ f.cells ≤ m
def topV (g depth : Nat) : Value := if depth = 0 then .pointer none else .pointer (some ⟨g, (depth - 1) * 5, none⟩)
theorem topV_0 {g : Nat} : topV g 0 = .pointer none := rfl
theorem topV_1 {g n : Nat} : topV g (n + 1) = .pointer (some ⟨g, n * 5, none⟩) := rfl
theorem top_1 {st : List FrameS} {n : Nat} {p m li la : Int} {s : List UInt8} {sy tp : Int} {f : FrameS} (hf : st[n]? = some f) : WalkS.top ⟨st, n + 1, p, m, li, la, s, sy, tp⟩ = some f := by
  rw [WalkS.top, if_neg (by simp), Nat.add_sub_cancel]
  exact hf
theorem top_0 {st : List FrameS} {p m li la : Int} {s : List UInt8} {sy tp : Int} : WalkS.top ⟨st, 0, p, m, li, la, s, sy, tp⟩ = none := rfl
theorem set_get {st : List FrameS} {n : Nat} {f f' : FrameS} (hf : st[n]? = some f) : (st.set n f')[n]? = some f' := by
  rw [List.getElem?_set_self (List.getElem?_eq_some_iff.1 hf).1]
/-- outside of a paragraph -/
def outerS (k : WalkS) (kind wl : Int) : Bool × WalkS :=
  match k.top with
  | none =>
    if kind = 15 then (true, k)
    else if kind = 8 then (true, ⟨k.stack.set k.depth (zf kind 0), k.depth + 1, 1, k.marks, k.links, k.last, k.s, k.styles, k.topics⟩)
    else if kind = 10 then (true, ⟨k.stack.set k.depth (zf kind 0), k.depth + 1, k.inPara, k.marks, k.links, k.last, k.s, k.styles, k.topics⟩)
    else if kind = 12 then (true, ⟨k.stack.set k.depth (zf kind wl), k.depth + 1, k.inPara, k.marks, k.links, k.last, k.s, k.styles, k.topics⟩)
    else (false, k)
  | some t =>
    if kind = 8 then
      (if (t.kind = 10 ∧ 0 < t.items) ∨ (t.kind = 12 ∧ 0 < t.rows ∧ t.cells < t.wide) then (true, ⟨k.stack.set k.depth (zf kind 0), k.depth + 1, 1, k.marks, k.links, k.last, k.s, k.styles, k.topics⟩) else (false, k))
    else if kind = 10 then
      (if (t.kind = 10 ∧ 0 < t.items) ∧ (k.depth : Int) < 8 then (true, ⟨k.stack.set k.depth (zf kind 0), k.depth + 1, k.inPara, k.marks, k.links, k.last, k.s, k.styles, k.topics⟩) else (false, k))
    else if kind = 11 then
      (if t.kind = 10 then (true, ⟨k.stack.set (k.depth - 1) ⟨t.kind, t.items + 1, t.rows, t.cells, t.wide⟩, k.depth, k.inPara, k.marks, k.links, k.last, k.s, k.styles, k.topics⟩) else (false, k))
    else if kind = 13 then
      (if t.kind = 12 ∧ ¬ (0 < t.rows ∧ t.cells < t.wide) then (true, ⟨k.stack.set (k.depth - 1) ⟨t.kind, t.items, t.rows + 1, 0, t.wide⟩, k.depth, k.inPara, k.marks, k.links, k.last, k.s, k.styles, k.topics⟩) else (false, k))
    else if kind = 14 then
      (if t.kind = 12 ∧ 0 < t.rows ∧ t.cells < t.wide then (false, k) else (true, ⟨k.stack, k.depth - 1, k.inPara, k.marks, k.links, k.last, k.s, k.styles, k.topics⟩))
    else (false, k)
def placeS (k : WalkS) (kind wl : Int) : Bool × WalkS := if k.inPara = 1 then innerS k kind else outerS k kind wl
def operandS (kind n : Int) (wd : List Int) (sy tp : Int) : Bool :=
  if kind = 2 ∨ kind = 8 then decide (n < sy) else if kind = 3 ∨ kind = 4 then decide (n < tp) else if kind = 10 then decide (n ≤ 1)
  else if kind = 12 then (wd.all (fun x => decide (x ≤ 100)) && decide ((wd.length : Int) ≤ 8)) else true
theorem operand_bad {kind n : Int} {wd : List Int} {sy tp : Int} {j : Nat} {x : Int} (hk : kind = 12) (h : wd[j]? = some x) (hx : 100 < x) : operandS kind n wd sy tp = false := by
  rw [operandS, if_neg (by omega), if_neg (by omega), if_neg (by omega), if_pos hk]
  have : wd.all (fun x => decide (x ≤ 100)) = false := by
    rw [List.all_eq_false]
    exact ⟨x, List.mem_of_getElem? h, by simp; omega⟩
  rw [this]
  rfl
theorem operand_tab {kind n : Int} {wd : List Int} {sy tp : Int} (hk : kind = 12) (h : ∀ j x, j < wd.length → wd[j]? = some x → x ≤ 100) : operandS kind n wd sy tp = decide ((wd.length : Int) ≤ 8) := by
  rw [operandS, if_neg (by omega), if_neg (by omega), if_neg (by omega), if_pos hk]
  have : wd.all (fun x => decide (x ≤ 100)) = true := by
    rw [List.all_eq_true]
    intro x hx
    obtain ⟨j, hj, e⟩ := List.getElem_of_mem hx
    simpa using h j x hj (by rw [List.getElem?_eq_getElem hj, e])
  rw [this]
  rfl
theorem below_snoc {wd : List Int} {j : Nat} {x : Int} (h : ∀ i y, i < j → wd[i]? = some y → y ≤ 100) (hx : wd[j]? = some x) (hl : x ≤ 100) : ∀ i y, i < j + 1 → wd[i]? = some y → y ≤ 100 := by
  intro i y hi hy
  by_cases h1 : i = j
  · subst h1; rw [hx] at hy; injection hy with hy; omega
  · exact h i y (by omega) hy
/-! texts -/
def ctrlS (r : Int) : Bool := decide (r < 32 ∨ (127 ≤ r ∧ r ≤ 159))
def badS (l : List UInt8) (p : Nat) : Bool := decide (((Lib.decodeGo ⟨(l.drop p).toArray⟩).1 : Int) = 65533) && decide (((Lib.decodeGo ⟨(l.drop p).toArray⟩).2 : Int) = 1)
def bytesOf (l : List UInt8) : ByteArray := ⟨l.toArray⟩
theorem bytesOf_size (l : List UInt8) : (bytesOf l).size = l.length := rfl
def plainF : Nat → List UInt8 → Nat → Int × Bool
  | 0, _, _ => (0, true)
  | f + 1, l, p =>
    if p < l.length then
      (if ctrlS ((Utf8.decode (bytesOf l) p).1 : Int) || (decide (((Utf8.decode (bytesOf l) p).1 : Int) = 65533) && badS l p) then ((p : Int), false)
       else plainF f l (p + (Utf8.decode (bytesOf l) p).2))
    else (0, true)
def plainS (l : List UInt8) : Int × Bool := plainF l.length l 0
def textsS (k : WalkS) (kind n : Int) : Bool × WalkS :=
  if kind = 15 then (decide (k.s = []), k)
  else if kind = 1 then (if (k.s.length : Int) < n then (false, k) else ((plainS (k.s.take n.toNat)).2, { k with s := k.s.drop n.toNat }))
  else (true, k)
theorem plain_hit {f p : Nat} {l : List UInt8} (hp : p < l.length) (h : ctrlS ((Utf8.decode (bytesOf l) p).1 : Int) = true ∨ (((Utf8.decode (bytesOf l) p).1 : Int) = 65533 ∧ badS l p = true)) : plainF (f + 1) l p = ((p : Int), false) := by
  rw [plainF, if_pos hp, if_pos]
  rcases h with h | ⟨h, h'⟩
  · rw [h]; rfl
  · rw [h', h]; simp
theorem plain_pass {f p : Nat} {l : List UInt8} (hp : p < l.length) (h : ctrlS ((Utf8.decode (bytesOf l) p).1 : Int) = false) (h' : ((Utf8.decode (bytesOf l) p).1 : Int) = 65533 → badS l p = false) :
    plainF (f + 1) l p = plainF f l (p + (Utf8.decode (bytesOf l) p).2) := by
  rw [plainF, if_pos hp, if_neg]
  rw [h]
  simp only [Bool.false_or, Bool.and_eq_true, decide_eq_true_eq]
  rintro ⟨h1, h2⟩
  rw [h' h1] at h2
  cases h2
theorem plain_end {f p : Nat} {l : List UInt8} (hp : ¬ p < l.length) : plainF f l p = (0, true) := by
  cases f with
  | zero => rfl
  | succ f => rw [plainF, if_neg hp]
theorem dec_pos (l : List UInt8) (p : Nat) (h : p < l.length) : 1 ≤ (Utf8.decode (bytesOf l) p).2 := by
  have hs : p < (bytesOf l).size := by rw [bytesOf_size]; exact h
  by_cases ha : ((bytesOf l)[p]'hs).toNat < 128
  · rw [decode_ascii _ _ hs ha]; exact Nat.le_refl _
  · exact (decode_high _ _ hs (by omega)).2
theorem dec_le (l : List UInt8) (p : Nat) : (Utf8.decode (bytesOf l) p).1 ≤ 2147483647 := decode_le _ _
/-! the whole walk -/
def stepS (k : WalkS) (i : InstrS) : Int × WalkS :=
  if operandS i.kind i.n i.widths k.styles k.topics = false then (161, k)
  else if (placeS k i.kind i.widths.length).1 = false then (170, (placeS k i.kind i.widths.length).2)
  else if (textsS (placeS k i.kind i.widths.length).2 i.kind i.n).1 = false then (171, (textsS (placeS k i.kind i.widths.length).2 i.kind i.n).2)
  else (0, { (textsS (placeS k i.kind i.widths.length).2 i.kind i.n).2 with last := i.kind })
structure RunR where
  ni : Int
  nb : Int
  nl : Int
  np : Int
  ns : Int
  ds : List Int
  at_ : Int
  e : Int
def runF (ni nb : Int) : List InstrS → WalkS → Int → Int → Int → List Int → RunR
  | [], _, nl, np, ns, ds => ⟨ni, nb, nl, np, ns, ds, 0, 0⟩
  | i :: r, k, nl, np, ns, ds =>
    if (stepS k i).1 ≠ 0 then ⟨ni, nb, nl, np, ns, [], i.at_, (stepS k i).1⟩
    else runF ni nb r (stepS k i).2 (if i.kind = 3 ∨ i.kind = 4 then nl + 1 else nl) (if i.kind = 8 then np + 1 else np) (max ns (stepS k i).2.depth) (ds ++ [(k.depth : Int)])
def frame0 : FrameS := ⟨0, 0, 0, 0, 0⟩
def walk0 (s : List UInt8) (sty tp : Int) : WalkS := ⟨List.replicate 32 frame0, 0, 0, 0, 0, 0, s, sty, tp⟩
def runS (b s : List UInt8) (sty tp : Int) : RunR :=
  if 16384 < (s.length : Int) then ⟨0, 0, 0, 0, 0, [], 0, 2⟩
  else if (instrsS b).2.2 ≠ 0 then ⟨0, 0, 0, 0, 0, [], (instrsS b).2.1, (instrsS b).2.2⟩
  else if 65536 < ((instrsS b).1.length : Int) - 1 then ⟨0, 0, 0, 0, 0, [], 0, 2⟩
  else runF (((instrsS b).1.length : Int) - 1) s.length (instrsS b).1 (walk0 s sty tp) 0 0 0 []
theorem fr_set {st : List FrameS} {i : Nat} {f' : FrameS} {m : Nat} (h : ∀ f ∈ st, 0 ≤ f.items ∧ f.items ≤ m ∧ 0 ≤ f.rows ∧ f.rows ≤ m ∧ 0 ≤ f.cells ∧ f.cells ≤ m)
    (h' : 0 ≤ f'.items ∧ f'.items ≤ m + 1 ∧ 0 ≤ f'.rows ∧ f'.rows ≤ m + 1 ∧ 0 ≤ f'.cells ∧ f'.cells ≤ m + 1) :
    ∀ f ∈ st.set i f', 0 ≤ f.items ∧ f.items ≤ ((m + 1 : Nat) : Int) ∧ 0 ≤ f.rows ∧ f.rows ≤ ((m + 1 : Nat) : Int) ∧ 0 ≤ f.cells ∧ f.cells ≤ ((m + 1 : Nat) : Int) := by
  intro f hf
  rcases List.mem_or_eq_of_mem_set hf with hf | rfl
  · have := h f hf; omega
  · omega
theorem fr_up {st : List FrameS} {m : Nat} (h : ∀ f ∈ st, 0 ≤ f.items ∧ f.items ≤ m ∧ 0 ≤ f.rows ∧ f.rows ≤ m ∧ 0 ≤ f.cells ∧ f.cells ≤ m) :
    ∀ f ∈ st, 0 ≤ f.items ∧ f.items ≤ ((m + 1 : Nat) : Int) ∧ 0 ≤ f.rows ∧ f.rows ≤ ((m + 1 : Nat) : Int) ∧ 0 ≤ f.cells ∧ f.cells ≤ ((m + 1 : Nat) : Int) := by
  intro f hf
  have := h f hf; omega
/-- a step that may be keeps the walk in order -/
structure Next1 (k k' : WalkS) (m : Nat) : Prop where
  ok : WOk k' (m + 1)
  by1 : k'.depth ≤ k.depth + 1 ∧ k.depth ≤ k'.depth + 1
  s : k'.s = k.s
theorem inner_ok {k : WalkS} {m : Nat} {kind : Int} (ok : WOk k m) (hp : k.inPara = 1) (h : (innerS k kind).1 = true) : Next1 k (innerS k kind).2 m := by
  obtain ⟨st, d, p, ma, li, la, s, sy, tp⟩ := k
  obtain ⟨hk, ho, hi, hl, hf⟩ := ok
  dsimp only at hk ho hi hl hf hp
  obtain ⟨h1, h2, h3, h4⟩ := hi hp
  unfold innerS at h ⊢
  dsimp only at h ⊢
  have hz : ∀ x, 0 ≤ (zf x 0).items ∧ (zf x 0).items ≤ (m : Int) + 1 ∧ 0 ≤ (zf x 0).rows ∧ (zf x 0).rows ≤ (m : Int) + 1 ∧ 0 ≤ (zf x 0).cells ∧ (zf x 0).cells ≤ (m : Int) + 1 := fun x => by dsimp only [zf]; omega
  have up : ∀ k2 : WalkS, k2 = ⟨st, d, p, ma, li, la, s, sy, tp⟩ → Next1 ⟨st, d, p, ma, li, la, s, sy, tp⟩ k2 m := by
    rintro _ rfl
    exact ⟨⟨hk, ho, fun _ => ⟨h1, h2, h3, h4⟩, by dsimp only; omega, fr_up hf⟩, by dsimp only; omega, rfl⟩
  by_cases c1 : kind = 1
  · rw [if_pos c1]; exact up _ rfl
  · rw [if_neg c1] at h ⊢
    by_cases c2 : kind = 6 ∨ kind = 7
    · rw [if_pos c2]; exact up _ rfl
    · rw [if_neg c2] at h ⊢
      by_cases c3 : kind = 3 ∨ kind = 4
      · rw [if_pos c3] at h ⊢
        by_cases c4 : 0 < li
        · rw [if_pos c4] at h; cases h
        · rw [if_neg c4] at h ⊢
          by_cases c5 : 16 ≤ ma
          · rw [if_pos c5] at h; cases h
          · rw [if_neg c5]
            exact ⟨⟨by simpa using hk, fun h => absurd hp h, fun _ => by dsimp only; omega, by dsimp only; omega, fr_set hf (hz _)⟩, by dsimp only; omega, rfl⟩
      · rw [if_neg c3] at h ⊢
        by_cases c4 : kind = 2
        · rw [if_pos c4] at h ⊢
          by_cases c5 : 16 ≤ ma
          · rw [if_pos c5] at h; cases h
          · rw [if_neg c5]
            exact ⟨⟨by simpa using hk, fun h => absurd hp h, fun _ => by dsimp only; omega, by dsimp only; omega, fr_set hf (hz _)⟩, by dsimp only; omega, rfl⟩
        · rw [if_neg c4] at h ⊢
          by_cases c5 : kind = 5
          · rw [if_pos c5] at h ⊢
            by_cases c6 : ma = 0
            · rw [if_pos c6] at h; cases h
            · rw [if_neg c6]
              refine ⟨⟨hk, fun h => absurd hp h, fun _ => by dsimp only; omega, ?_, fr_up hf⟩, by dsimp only; omega, rfl⟩
              dsimp only
              split
              · split <;> omega
              · omega
          · rw [if_neg c5] at h ⊢
            by_cases c6 : kind = 9
            · rw [if_pos c6] at h ⊢
              by_cases c7 : 0 < ma
              · rw [if_pos c7] at h; cases h
              · rw [if_neg c7]
                obtain ⟨n1, rfl⟩ : ∃ n1, d = n1 + 1 := ⟨d - 1, by omega⟩
                have hn1 : n1 ≤ 8 := by omega
                rcases n1 with _ | n2
                · show Next1 _ ⟨st, 0, 0, ma, li, la, s, sy, tp⟩ m
                  exact ⟨⟨hk, fun _ => by dsimp only; omega, fun h => absurd (show (0 : Int) = 1 from h) (by decide), by dsimp only; omega, fr_up hf⟩, by dsimp only; omega, rfl⟩
                · obtain ⟨f, hff⟩ : ∃ f, st[n2]? = some f := ⟨_, List.getElem?_eq_getElem (by omega)⟩
                  simp only [Nat.add_sub_cancel]
                  rw [top_1 hff]
                  dsimp only
                  have hfb := hf f (List.mem_of_getElem? hff)
                  split
                  · exact ⟨⟨by simpa using hk, fun _ => by dsimp only; omega, fun h => absurd (show (0 : Int) = 1 from h) (by decide), by dsimp only; omega, fr_set hf (by dsimp only; omega)⟩, by dsimp only; omega, rfl⟩
                  · exact ⟨⟨hk, fun _ => by dsimp only; omega, fun h => absurd (show (0 : Int) = 1 from h) (by decide), by dsimp only; omega, fr_up hf⟩, by dsimp only; omega, rfl⟩
            · rw [if_neg c6] at h; cases h
theorem outer_ok {k : WalkS} {m : Nat} {kind wl : Int} (ok : WOk k m) (hp : ¬ k.inPara = 1) (h : (outerS k kind wl).1 = true) : Next1 k (outerS k kind wl).2 m := by
  obtain ⟨st, d, p, ma, li, la, s, sy, tp⟩ := k
  obtain ⟨hk, ho, hi, hl, hf⟩ := ok
  dsimp only at hk ho hi hl hf hp
  obtain ⟨h1, h2⟩ := ho hp
  have hz : ∀ x y, 0 ≤ (zf x y).items ∧ (zf x y).items ≤ (m : Int) + 1 ∧ 0 ≤ (zf x y).rows ∧ (zf x y).rows ≤ (m : Int) + 1 ∧ 0 ≤ (zf x y).cells ∧ (zf x y).cells ≤ (m : Int) + 1 := fun x y => by dsimp only [zf]; omega
  have up : ∀ k2 : WalkS, k2 = ⟨st, d, p, ma, li, la, s, sy, tp⟩ → Next1 ⟨st, d, p, ma, li, la, s, sy, tp⟩ k2 m := by
    rintro _ rfl
    exact ⟨⟨hk, ho, hi, by dsimp only; omega, fr_up hf⟩, by dsimp only; omega, rfl⟩
  have para : ∀ x, Next1 ⟨st, d, p, ma, li, la, s, sy, tp⟩ ⟨st.set d (zf x 0), d + 1, 1, ma, li, la, s, sy, tp⟩ m := fun x =>
    ⟨⟨by simpa using hk, fun h => absurd rfl h, fun _ => by dsimp only; omega, by dsimp only; omega, fr_set hf (hz _ _)⟩, by dsimp only; omega, rfl⟩
  have open_ : ∀ x y, d < 8 → Next1 ⟨st, d, p, ma, li, la, s, sy, tp⟩ ⟨st.set d (zf x y), d + 1, p, ma, li, la, s, sy, tp⟩ m := fun x y hd =>
    ⟨⟨by simpa using hk, fun _ => by dsimp only; omega, fun h => absurd h hp, by dsimp only; omega, fr_set hf (hz _ _)⟩, by dsimp only; omega, rfl⟩
  rcases d with _ | n1
  · unfold outerS at h ⊢
    rw [top_0] at h ⊢
    dsimp only at h ⊢
    by_cases c1 : kind = 15
    · rw [if_pos c1]; exact up _ rfl
    · rw [if_neg c1] at h ⊢
      by_cases c2 : kind = 8
      · rw [if_pos c2]; exact para _
      · rw [if_neg c2] at h ⊢
        by_cases c3 : kind = 10
        · rw [if_pos c3]; exact open_ _ _ (by omega)
        · rw [if_neg c3] at h ⊢
          by_cases c4 : kind = 12
          · rw [if_pos c4]; exact open_ _ _ (by omega)
          · rw [if_neg c4] at h; cases h
  · obtain ⟨f, hff⟩ : ∃ f, st[n1]? = some f := ⟨_, List.getElem?_eq_getElem (by omega)⟩
    have hfb := hf f (List.mem_of_getElem? hff)
    unfold outerS at h ⊢
    rw [top_1 hff] at h ⊢
    dsimp only at h ⊢
    have put : ∀ f' : FrameS, (0 ≤ f'.items ∧ f'.items ≤ (m : Int) + 1 ∧ 0 ≤ f'.rows ∧ f'.rows ≤ (m : Int) + 1 ∧ 0 ≤ f'.cells ∧ f'.cells ≤ (m : Int) + 1) → Next1 ⟨st, n1 + 1, p, ma, li, la, s, sy, tp⟩ ⟨st.set (n1 + 1 - 1) f', n1 + 1, p, ma, li, la, s, sy, tp⟩ m := fun f' h' =>
      ⟨⟨by simpa using hk, fun _ => ⟨h1, h2⟩, fun h => absurd h hp, by dsimp only; omega, fr_set hf h'⟩, by dsimp only; omega, rfl⟩
    by_cases c2 : kind = 8
    · rw [if_pos c2] at h ⊢
      split at h
      · rename_i c; rw [if_pos c]; exact para _
      · cases h
    · rw [if_neg c2] at h ⊢
      by_cases c3 : kind = 10
      · rw [if_pos c3] at h ⊢
        split at h
        · rename_i c; rw [if_pos c]; exact open_ _ _ (by omega)
        · cases h
      · rw [if_neg c3] at h ⊢
        by_cases c4 : kind = 11
        · rw [if_pos c4] at h ⊢
          split at h
          · rename_i c; rw [if_pos c]; exact put _ (by dsimp only; omega)
          · cases h
        · rw [if_neg c4] at h ⊢
          by_cases c5 : kind = 13
          · rw [if_pos c5] at h ⊢
            split at h
            · rename_i c; rw [if_pos c]; exact put _ (by dsimp only; omega)
            · cases h
          · rw [if_neg c5] at h ⊢
            by_cases c6 : kind = 14
            · rw [if_pos c6] at h ⊢
              split at h
              · cases h
              · rename_i c
                rw [if_neg c]
                exact ⟨⟨hk, fun _ => by dsimp only; omega, fun h => absurd h hp, by dsimp only; omega, fr_up hf⟩, by dsimp only; omega, rfl⟩
            · rw [if_neg c6] at h; cases h
theorem place_ok {k : WalkS} {m : Nat} {kind wl : Int} (ok : WOk k m) (h : (placeS k kind wl).1 = true) : Next1 k (placeS k kind wl).2 m := by
  unfold placeS at h ⊢
  split at h
  · rename_i c; rw [if_pos c]; exact inner_ok ok c h
  · rename_i c; rw [if_neg c]; exact outer_ok ok c h
/-- a whole step -/
structure Next2 (k k' : WalkS) (m : Nat) : Prop where
  ok : WOk k' (m + 1)
  by1 : k'.depth ≤ k.depth + 1 ∧ k.depth ≤ k'.depth + 1
  s : k'.s.length ≤ k.s.length
theorem texts_ok {k : WalkS} {m : Nat} {kind n : Int} (ok : WOk k m) : WOk (textsS k kind n).2 m ∧ (textsS k kind n).2.depth = k.depth ∧ (textsS k kind n).2.s.length ≤ k.s.length := by
  unfold textsS
  split
  · exact ⟨ok, rfl, Nat.le_refl _⟩
  · split
    · split
      · exact ⟨ok, rfl, Nat.le_refl _⟩
      · exact ⟨⟨ok.len, ok.out, ok.inn, ok.links, ok.fr⟩, rfl, by dsimp only; rw [List.length_drop]; omega⟩
    · exact ⟨ok, rfl, Nat.le_refl _⟩
theorem step_ok {k : WalkS} {m : Nat} {i : InstrS} (ok : WOk k m) (h : (stepS k i).1 = 0) : Next2 k (stepS k i).2 m := by
  unfold stepS at h ⊢
  split at h
  · exact absurd (show (161 : Int) = 0 from h) (by decide)
  · rename_i c1
    split at h
    · exact absurd (show (170 : Int) = 0 from h) (by decide)
    · rename_i c2
      split at h
      · exact absurd (show (171 : Int) = 0 from h) (by decide)
      · rename_i c3
        rw [if_neg c1, if_neg c2, if_neg c3]
        have h1 := place_ok ok (by simpa using c2)
        obtain ⟨h2, h3, h4⟩ := texts_ok (kind := i.kind) (n := i.n) h1.ok
        have h5 := h1.s
        refine ⟨⟨h2.len, h2.out, h2.inn, h2.links, h2.fr⟩, ?_, ?_⟩
        · have := h1.by1
          dsimp only
          omega
        · dsimp only
          rw [h5] at h4
          exact h4
theorem WOk.depth_le {k : WalkS} {m : Nat} (ok : WOk k m) : k.depth ≤ 25 := by
  by_cases h : k.inPara = 1
  · have := ok.inn h; omega
  · have := ok.out h; omega
theorem walk0_ok {s : List UInt8} {sty tp : Int} : WOk (walk0 s sty tp) 0 := by
  refine ⟨rfl, fun _ => by dsimp only [walk0]; omega, fun h => absurd (show (0 : Int) = 1 from h) (by decide), by dsimp only [walk0]; omega, fun f hf => ?_⟩
  rw [List.eq_of_mem_replicate hf]
  dsimp only [frame0]
  omega
section
variable {ni nb nl np ns : Int} {l : List InstrS} {k : WalkS} {ds : List Int} {R : RunR} {j : Nat} {i : InstrS}
theorem drop_at {α : Type} {l : List α} {j : Nat} {x : α} (h : l[j]? = some x) : l.drop j = x :: l.drop (j + 1) := by
  obtain ⟨h1, h2⟩ := List.getElem?_eq_some_iff.1 h
  rw [List.drop_eq_getElem_cons h1, h2]
theorem run_err (h : runF ni nb (l.drop j) k nl np ns ds = R) (hq : l[j]? = some i) (he : (stepS k i).1 ≠ 0) : R = ⟨ni, nb, nl, np, ns, [], i.at_, (stepS k i).1⟩ := by
  rw [← h, drop_at hq, runF, if_pos he]
theorem run_next (h : runF ni nb (l.drop j) k nl np ns ds = R) (hq : l[j]? = some i) (he : (stepS k i).1 = 0) :
    runF ni nb (l.drop (j + 1)) (stepS k i).2 (if i.kind = 3 ∨ i.kind = 4 then nl + 1 else nl) (if i.kind = 8 then np + 1 else np) (max ns (stepS k i).2.depth) (ds ++ [(k.depth : Int)]) = R := by
  rw [← h, drop_at hq, runF, if_neg (show ¬ (stepS k i).1 ≠ 0 by simpa using he)]
theorem run_end (h : runF ni nb (l.drop j) k nl np ns ds = R) (hj : l.length ≤ j) : R = ⟨ni, nb, nl, np, ns, ds, 0, 0⟩ := by
  rw [← h, List.drop_eq_nil_of_le hj, runF]
end
def InstrOk (i : InstrS) : Prop := (i.kind = 1 → 0 ≤ i.n) ∧ i.widths.length ≤ 1048576
theorem fin_good {b : List UInt8} {at_ long kind n : Int} (hn : 0 ≤ n) (h : (finS b at_ long kind n).2 = 0) : InstrOk (finS b at_ long kind n).1 := by
  unfold finS InstrOk at *
  repeat' split at h
  all_goals (try (simp at h))
  all_goals simp [*, ints_length]
  all_goals omega
theorem next_good {b : List UInt8} {k : Nat} (h : (nextS b (k : Int)).2 = 0) : InstrOk (nextS b (k : Int)).1 := by
  by_cases hk : k < b.length
  · obtain ⟨x, hx⟩ : ∃ x, b[k]? = some x := ⟨_, List.getElem?_eq_getElem hk⟩
    have hnb := numL_bd (b.drop (k + 1))
    by_cases h1 : x.toNat / 16 = 0
    · rw [next_op0 hx h1] at h; simp at h
    · by_cases h2 : x.toNat % 16 = 15
      · by_cases h3 : numE (b.drop (k + 1)) ≠ 0
        · rw [next_err hx h1 h2 h3] at h; exact absurd h h3
        · by_cases h4 : 2147483632 < numV (b.drop (k + 1))
          · rw [next_big hx h1 h2 h3 h4] at h; simp at h
          · rw [next_long hx h1 h2 h3 h4] at h ⊢
            exact fin_good (by omega) h
      · rw [next_short hx h1 h2] at h ⊢
        exact fin_good (by omega) h
  · rw [next_rng (by omega)] at h; simp at h
theorem instrsF_good : ∀ (f : Nat) (b : List UInt8) (k : Nat), (∀ i ∈ (instrsF f b k).1, InstrOk i) ∧ (instrsF f b k).1.length ≤ f ∧ ((instrsF f b k).2.2 = 0 → (instrsF f b k).2.1 = 0)
  | 0, b, k => ⟨fun i hi => absurd hi (by simp [instrsF]), Nat.le_refl _, fun h => absurd (show (162 : Int) = 0 from h) (by decide)⟩
  | f + 1, b, k => by
    unfold instrsF
    split
    · split
      · exact ⟨fun i hi => absurd hi (by simp), Nat.zero_le _, fun h => absurd h (by assumption)⟩
      · rename_i he
        have hg := next_good (b := b) (k := k) (by simpa using he)
        split
        · split
          · exact ⟨fun i hi => absurd hi (by simp), Nat.zero_le _, fun h => absurd (show (162 : Int) = 0 from h) (by decide)⟩
          · exact ⟨fun i hi => by rw [List.mem_singleton.1 hi]; exact hg, by simp, fun _ => rfl⟩
        · have ih := instrsF_good f b (k + (nextS b (k : Int)).1.long.toNat)
          unfold ahead
          split
          · exact ⟨fun i hi => by rcases List.mem_cons.1 hi with rfl | hi; exact hg; exact ih.1 i hi, by simp; exact ih.2.1, ih.2.2⟩
          · exact ⟨ih.1, Nat.le_succ_of_le ih.2.1, ih.2.2⟩
    · exact ⟨fun i hi => absurd hi (by simp), Nat.zero_le _, fun h => absurd (show (162 : Int) = 0 from h) (by decide)⟩
theorem instrs_good (b : List UInt8) : (∀ i ∈ (instrsS b).1, InstrOk i) ∧ (instrsS b).1.length ≤ 1048576 ∧ ((instrsS b).2.2 = 0 → (instrsS b).2.1 = 0) := by
  unfold instrsS
  split
  · exact ⟨fun i hi => absurd hi (by simp), Nat.zero_le _, fun _ => rfl⟩
  · have := instrsF_good b.length b 0
    exact ⟨this.1, by omega, this.2.2⟩
theorem mcells_get {M : List (InstrS × Option Addr × Nat)} {j : Nat} {q : InstrS × Option Addr × Nat} (h : M[j]? = some q) {r : Nat} {v : Value} (hv : (icell q)[r]? = some v) : (mcells M)[j * 5 + r]? = some v := by
  have := flat_get (f := icell) (n := 5) (b := []) (fun _ => rfl) h hv
  simpa [mcells, flat] using this
def measS (r : RunR) : RunR := if r.e ≠ 0 then ⟨0, 0, 0, 0, 0, [], 0, r.e⟩ else ⟨r.ni, r.nb, r.nl, r.np, r.ns, r.ds, r.at_, 0⟩
theorem row_cap {w : World} {A : Option Addr} {c t size n : Nat} {xs : List Value} (h : w.ownsRow 0 t size (.slice A n c) n xs) : n ≤ c := by
  rcases h.2 with ⟨h1, h2⟩ | ⟨g, cap, cur, hv, _, _, hc, _⟩
  · injection h1; omega
  · injection hv with _ _ h3; subst h3; exact hc
theorem ints_len {l m : List Int} (h : (l.length : Int) ≠ m.length) : decide (l = m) = false := decide_eq_false fun e => h (by rw [e])
theorem ints_ne {l m : List Int} {j : Nat} {x y : Int} (hx : l[j]? = some x) (hy : m[j]? = some y) (h : x ≠ y) : decide (l = m) = false := decide_eq_false fun e => by
  subst e
  rw [hx] at hy
  injection hy with hy
  exact h hy
theorem ints_eq {l m : List Int} {j : Nat} (h : l.take j = m.take j) (hl : l.length ≤ j) (hm : m.length ≤ j) : decide (l = m) = true := by
  rw [List.take_of_length_le hl, List.take_of_length_le hm] at h
  exact decide_eq_true h
theorem take_snoc {l m : List Int} {j : Nat} {x y : Int} (h : l.take j = m.take j) (hx : l[j]? = some x) (hy : m[j]? = some y) (e : ¬ x ≠ y) : l.take (j + 1) = m.take (j + 1) := by
  rw [List.take_add_one, List.take_add_one, hx, hy, h, Classical.not_not.1 e]
/-! the targets -/
@[reducible] def tcell (q : Int × Int) : List Value := [.int .i64 q.1, .int .i64 q.2]
def tcells (l : List (Int × Int)) : List Value := l.flatMap tcell
theorem tcells_snoc (l : List (Int × Int)) (q : Int × Int) : tcells l ++ tcell q = tcells (l ++ [q]) := by simp [tcells]
def linksF : Nat → List UInt8 → Nat → List (Int × Int)
  | 0, _, _ => []
  | f + 1, b, k =>
    if (nextS b k).2 ≠ 0 then []
    else if (nextS b k).1.kind = 3 then (0, (nextS b k).1.n) :: linksF f b (k + (nextS b k).1.long.toNat)
    else if (nextS b k).1.kind = 4 then (1, (nextS b k).1.n) :: linksF f b (k + (nextS b k).1.long.toNat)
    else if (nextS b k).1.kind = 15 then []
    else linksF f b (k + (nextS b k).1.long.toNat)
def linksS (b : List UInt8) : List (Int × Int) := linksF (b.length + 1) b 0
section
variable {f k : Nat} {b : List UInt8} {acc R : List (Int × Int)}
theorem links_stop (h : acc ++ linksF (f + 1) b k = R) (hs : (nextS b k).2 ≠ 0 ∨ (nextS b k).1.kind = 15) : R = acc := by
  rw [← h, linksF]
  by_cases h1 : (nextS b k).2 ≠ 0
  · rw [if_pos h1, List.append_nil]
  · rw [if_neg h1, if_neg (by omega), if_neg (by omega), if_pos (by omega), List.append_nil]
theorem links_3 (h : acc ++ linksF (f + 1) b k = R) (h1 : ¬ (nextS b k).2 ≠ 0) (h2 : (nextS b k).1.kind = 3) : (acc ++ [(0, (nextS b k).1.n)]) ++ linksF f b (k + (nextS b k).1.long.toNat) = R := by
  rw [← h, linksF, if_neg h1, if_pos h2]; simp
theorem links_4 (h : acc ++ linksF (f + 1) b k = R) (h1 : ¬ (nextS b k).2 ≠ 0) (h2 : (nextS b k).1.kind = 4) : (acc ++ [(1, (nextS b k).1.n)]) ++ linksF f b (k + (nextS b k).1.long.toNat) = R := by
  rw [← h, linksF, if_neg h1, if_neg (by omega), if_pos h2]; simp
theorem links_next (h : acc ++ linksF (f + 1) b k = R) (h1 : ¬ (nextS b k).2 ≠ 0) (h2 : ¬ (nextS b k).1.kind = 3) (h3 : ¬ (nextS b k).1.kind = 4) (h4 : ¬ (nextS b k).1.kind = 15) :
    acc ++ linksF f b (k + (nextS b k).1.long.toNat) = R := by
  rw [← h, linksF, if_neg h1, if_neg h2, if_neg h3, if_neg h4]
end

end Go.Proofs.YtpaecijilnfkhaaDoor
