/- Plain words: operations and their bytes. -/
import Derived.Test.YtpaecijilnfkhaaDoorPl
import Derived.Test.YtpaecijilnfkhaaDoorEng3

namespace Go.Proofs.YtpaecijilnfkhaaDoor
open Go Go.Eng Go.RowKit

/-! operations, and their bytes -/
structure OpS where
  kind : Int
  n : Int
  text : List UInt8
  widths : List Int
@[reducible] def ocell (q : OpS × Option Addr × Nat) : List Value := [.int .i64 q.1.kind, .int .i64 q.1.n, str q.1.text, .slice q.2.1 q.1.widths.length q.2.2]
theorem ocell_length (q : OpS × Option Addr × Nat) : (ocell q).length = 4 := rfl
@[reducible] def opV (o : OpS) (A : Option Addr) (c : Nat) : Value := .agg #[.int .i64 o.kind, .int .i64 o.n, str o.text, .slice A o.widths.length c]
def wOk (x : Int) : Bool := decide (0 ≤ x ∧ x ≤ 255)
def opOk (o : OpS) : Bool :=
  if o.kind = 1 then decide (o.text ≠ [])
  else if o.kind = 2 ∨ o.kind = 3 ∨ o.kind = 4 ∨ o.kind = 10 then decide (0 ≤ o.n ∧ o.n ≤ 2147483647)
  else if o.kind = 8 then decide (-1 ≤ o.n ∧ o.n ≤ 2147483647)
  else if o.kind = 12 then o.widths.all wOk && decide (1 ≤ o.widths.length ∧ o.widths.length ≤ 16)
  else true
def opN (o : OpS) : Int :=
  if o.kind = 1 then (o.text.length : Int) - 1
  else if o.kind = 2 ∨ o.kind = 3 ∨ o.kind = 4 ∨ o.kind = 10 then o.n
  else if o.kind = 8 then o.n + 1
  else if o.kind = 12 then (o.widths.length : Int) - 1
  else 0
section
variable {kd n : Int} {tx : List UInt8} {wd : List Int}
theorem ok_text (h : kd = 1) : opOk ⟨kd, n, tx, wd⟩ = decide (tx ≠ []) ∧ opN ⟨kd, n, tx, wd⟩ = (tx.length : Int) - 1 := ⟨if_pos h, if_pos h⟩
theorem ok_num (h : kd = 2 ∨ kd = 3 ∨ kd = 4 ∨ kd = 10) : opOk ⟨kd, n, tx, wd⟩ = decide (0 ≤ n ∧ n ≤ 2147483647) ∧ opN ⟨kd, n, tx, wd⟩ = n := by
  unfold opOk opN
  dsimp only
  rw [if_neg (by omega), if_pos h, if_neg (by omega), if_pos h]
  exact ⟨rfl, rfl⟩
theorem ok_para (h : kd = 8) : opOk ⟨kd, n, tx, wd⟩ = decide (-1 ≤ n ∧ n ≤ 2147483647) ∧ opN ⟨kd, n, tx, wd⟩ = n + 1 := by
  unfold opOk opN
  dsimp only
  rw [if_neg (by omega), if_neg (by omega), if_pos h, if_neg (by omega), if_neg (by omega), if_pos h]
  exact ⟨rfl, rfl⟩
theorem ok_tab (h : kd = 12) : opOk ⟨kd, n, tx, wd⟩ = (wd.all wOk && decide (1 ≤ wd.length ∧ wd.length ≤ 16)) ∧ opN ⟨kd, n, tx, wd⟩ = (wd.length : Int) - 1 := by
  unfold opOk opN
  dsimp only
  rw [if_neg (by omega), if_neg (by omega), if_neg (by omega), if_pos h, if_neg (by omega), if_neg (by omega), if_neg (by omega), if_pos h]
  exact ⟨rfl, rfl⟩
theorem ok_else (h : ¬ (kd = 1 ∨ kd = 2 ∨ kd = 3 ∨ kd = 4 ∨ kd = 8 ∨ kd = 10 ∨ kd = 12)) : opOk ⟨kd, n, tx, wd⟩ = true ∧ opN ⟨kd, n, tx, wd⟩ = 0 := by
  unfold opOk opN
  dsimp only
  rw [if_neg (by omega), if_neg (by omega), if_neg (by omega), if_neg (by omega), if_neg (by omega), if_neg (by omega), if_neg (by omega), if_neg (by omega)]
  exact ⟨rfl, rfl⟩
theorem tab_bad {j : Nat} {x : Int} (h : kd = 12) (hx : wd[j]? = some x) (hb : ¬ (0 ≤ x ∧ x ≤ 255)) : opOk ⟨kd, n, tx, wd⟩ = false := by
  rw [(ok_tab h).1]
  have : wd.all wOk = false := by
    rw [List.all_eq_false]
    exact ⟨x, List.mem_of_getElem? hx, by simp [wOk]; omega⟩
  rw [this]; rfl
theorem tab_good (h : kd = 12) (hw : ∀ i y, i < wd.length → wd[i]? = some y → 0 ≤ y ∧ y ≤ 255) : opOk ⟨kd, n, tx, wd⟩ = decide (1 ≤ wd.length ∧ wd.length ≤ 16) := by
  rw [(ok_tab h).1]
  have : wd.all wOk = true := by
    rw [List.all_eq_true]
    intro x hx
    obtain ⟨j, hj, e⟩ := List.getElem_of_mem hx
    simpa [wOk] using hw j x hj (by rw [List.getElem?_eq_getElem hj, e])
  rw [this]; rfl
theorem wok_snoc {j : Nat} {x : Int} (h : ∀ i y, i < j → wd[i]? = some y → 0 ≤ y ∧ y ≤ 255) (hx : wd[j]? = some x) (hl : 0 ≤ x ∧ x ≤ 255) : ∀ i y, i < j + 1 → wd[i]? = some y → 0 ≤ y ∧ y ≤ 255 := by
  intro i y hi hy
  by_cases h1 : i = j
  · subst h1; rw [hx] at hy; injection hy with hy; omega
  · exact h i y (by omega) hy
end
def uintS (n : Nat) : List UInt8 := if h : n < 128 then [UInt8.ofNat n] else UInt8.ofNat (n % 128 + 128) :: uintS (n / 128)
  termination_by n
  decreasing_by omega
theorem uint_lo {n : Nat} (h : n < 128) : uintS n = [UInt8.ofNat n] := by rw [uintS, dif_pos h]
theorem uint_hi {n : Nat} (h : ¬ n < 128) : uintS n = UInt8.ofNat (n % 128 + 128) :: uintS (n / 128) := by rw [uintS, dif_neg h]
theorem uint_len : ∀ (k n : Nat), n < 128 ^ (k + 1) → (uintS n).length ≤ k + 1
  | k, n, h => by
    by_cases hn : n < 128
    · rw [uint_lo hn]; simp
    · rw [uint_hi hn]
      cases k with
      | zero => exfalso; simp at h; omega
      | succ k =>
        have := uint_len k (n / 128) (by rw [Nat.pow_succ] at h; omega)
        simp; omega
theorem uint_10 {n : Nat} (h : n < 18446744073709551616) : (uintS n).length ≤ 10 := uint_len 9 n (by omega)
theorem cell_ofNat {m : Nat} (h : m < 256) : ((UInt8.ofNat m).toNat : Int) = m := by
  have : (UInt8.ofNat m).toNat = m % 256 := by simp
  omega
def putS (k n : Int) : List UInt8 := if n < 15 then [UInt8.ofNat (k * 16 + n).toNat] else UInt8.ofNat (k * 16 + 15).toNat :: uintS (n - 15).toNat
theorem put_lo {k n : Int} (h : n < 15) : putS k n = [UInt8.ofNat (k * 16 + n).toNat] := if_pos h
theorem put_hi {k n : Int} (h : ¬ n < 15) : putS k n = UInt8.ofNat (k * 16 + 15).toNat :: uintS (n - 15).toNat := if_neg h
theorem put_len {k n : Int} (h : n ≤ 2147483648) : (putS k n).length ≤ 12 := by
  by_cases h1 : n < 15
  · rw [put_lo h1]; simp
  · rw [put_hi h1]
    have := uint_10 (n := (n - 15).toNat) (by omega)
    simp; omega
def wBytes (l : List Int) : List UInt8 := l.map fun x => UInt8.ofNat x.toNat
def encOne (o : OpS) : List UInt8 := putS o.kind (opN o) ++ (if o.kind = 12 then wBytes o.widths else [])
def txt (o : OpS) : List UInt8 := if o.kind = 1 then o.text else []
def encF : List OpS → List UInt8 → List UInt8 → List UInt8 × List UInt8 × Int
  | [], b, s => (b ++ [240], s, 0)
  | o :: r, b, s => if o.kind < 1 ∨ 14 < o.kind then ([], [], 160) else if opOk o = false then ([], [], 161) else encF r (b ++ encOne o) (s ++ txt o)
def longF : List OpS → Nat → Bool
  | [], _ => false
  | o :: r, n => if 16384 < n + (txt o).length then true else longF r (n + (txt o).length)
def encS (l : List OpS) : List UInt8 × List UInt8 × Int := if 65536 < l.length then ([], [], 2) else if longF l 0 = true then ([], [], 2) else encF l [] []
theorem txt_1 {o : OpS} (h : o.kind = 1) : txt o = o.text := if_pos h
theorem txt_0 {o : OpS} (h : ¬ o.kind = 1) : txt o = [] := if_neg h
section
variable {l : List OpS} {j n : Nat} {o : OpS} {R : Bool}
theorem long_hit (h : longF (l.drop j) n = R) (ho : l[j]? = some o) (hn : 16384 < n + (txt o).length) : R = true := by rw [← h, drop_at ho, longF, if_pos hn]
theorem long_next (h : longF (l.drop j) n = R) (ho : l[j]? = some o) (hn : ¬ 16384 < n + (txt o).length) : longF (l.drop (j + 1)) (n + (txt o).length) = R := by rw [← h, drop_at ho, longF, if_neg hn]
theorem long_end (h : longF (l.drop j) n = R) (hj : l.length ≤ j) : R = false := by rw [← h, List.drop_eq_nil_of_le hj, longF]
theorem long_le : ∀ (l : List OpS) (n : Nat), longF l n = false → n ≤ 16384 → n + (l.flatMap txt).length ≤ 16384
  | [], n, _, h => by simpa using h
  | o :: r, n, h, hn => by
    rw [longF] at h
    split at h
    · cases h
    · have := long_le r _ h (by omega)
      simp at this ⊢
      omega
end
section
variable {l : List OpS} {j : Nat} {o : OpS} {b s : List UInt8} {R : List UInt8 × List UInt8 × Int}
theorem enc_kind (h : encF (l.drop j) b s = R) (ho : l[j]? = some o) (hk : o.kind < 1 ∨ 14 < o.kind) : R = ([], [], 160) := by rw [← h, drop_at ho, encF, if_pos hk]
theorem enc_bad (h : encF (l.drop j) b s = R) (ho : l[j]? = some o) (hk : ¬ (o.kind < 1 ∨ 14 < o.kind)) (hb : opOk o = false) : R = ([], [], 161) := by rw [← h, drop_at ho, encF, if_neg hk, if_pos hb]
theorem enc_next (h : encF (l.drop j) b s = R) (ho : l[j]? = some o) (hk : ¬ (o.kind < 1 ∨ 14 < o.kind)) (hb : opOk o = true) : encF (l.drop (j + 1)) (b ++ encOne o) (s ++ txt o) = R := by
  rw [← h, drop_at ho, encF, if_neg hk, if_neg (by rw [hb]; decide)]
theorem enc_end (h : encF (l.drop j) b s = R) (hj : l.length ≤ j) : R = (b ++ [240], s, 0) := by rw [← h, List.drop_eq_nil_of_le hj, encF]
end
theorem opN_bd {o : OpS} (h : opOk o = true) (ht : o.text.length ≤ 140737488351232) : 0 ≤ opN o ∧ opN o ≤ 140737488351232 ∧ (o.kind ≠ 1 → opN o ≤ 2147483648) := by
  obtain ⟨kd, n, tx, wd⟩ := o
  by_cases h1 : kd = 1
  · obtain ⟨e1, e2⟩ := ok_text (n := n) (tx := tx) (wd := wd) h1
    rw [e1] at h
    rw [e2]
    have : tx ≠ [] := by simpa using h
    have h3 : 0 < tx.length := List.length_pos_iff.2 this
    refine ⟨by omega, by dsimp only at ht; omega, fun hk => absurd h1 hk⟩
  · by_cases h2 : kd = 2 ∨ kd = 3 ∨ kd = 4 ∨ kd = 10
    · obtain ⟨e1, e2⟩ := ok_num (n := n) (tx := tx) (wd := wd) h2
      rw [e1] at h; rw [e2]
      have : 0 ≤ n ∧ n ≤ 2147483647 := by simpa using h
      exact ⟨by omega, by omega, fun _ => by omega⟩
    · by_cases h3 : kd = 8
      · obtain ⟨e1, e2⟩ := ok_para (n := n) (tx := tx) (wd := wd) h3
        rw [e1] at h; rw [e2]
        have : -1 ≤ n ∧ n ≤ 2147483647 := by simpa using h
        exact ⟨by omega, by omega, fun _ => by omega⟩
      · by_cases h4 : kd = 12
        · obtain ⟨e1, e2⟩ := ok_tab (n := n) (tx := tx) (wd := wd) h4
          rw [e1] at h; rw [e2]
          have : 1 ≤ wd.length ∧ wd.length ≤ 16 := by simp at h; exact h.2
          exact ⟨by omega, by omega, fun _ => by omega⟩
        · rw [(ok_else (by omega)).2]
          exact ⟨by omega, by omega, fun _ => by omega⟩
theorem wok_of {o : OpS} (h : opOk o = true) (h12 : o.kind = 12) : o.widths.length ≤ 16 ∧ ∀ (j : Nat) (x : Int), o.widths[j]? = some x → 0 ≤ x ∧ x ≤ 255 := by
  obtain ⟨kd, n, tx, wd⟩ := o
  rw [(ok_tab h12).1] at h
  simp only [Bool.and_eq_true, decide_eq_true_eq, List.all_eq_true] at h
  exact ⟨h.2.2, fun j x hx => by simpa [wOk] using h.1 x (List.mem_of_getElem? hx)⟩
theorem wb_snoc {l : List Int} {j : Nat} {x : Int} (h : l[j]? = some x) (hx : 0 ≤ x ∧ x ≤ 255) : bcells (wBytes (l.take j)) ++ [.int .u8 x] = bcells (wBytes (l.take (j + 1))) := by
  rw [List.take_add_one, h]
  simp [bcells, wBytes]
  omega
theorem wb_len (l : List Int) : (wBytes l).length = l.length := by simp [wBytes]

def oE (o : OpS) : Int := if o.kind < 1 ∨ 14 < o.kind then 160 else if opOk o = false then 161 else 0
theorem oE_kind {o : OpS} (h : o.kind < 1 ∨ 14 < o.kind) : oE o = 160 := if_pos h
theorem oE_bad {o : OpS} (h : ¬ (o.kind < 1 ∨ 14 < o.kind)) (h2 : opOk o = false) : oE o = 161 := by rw [oE, if_neg h, if_pos h2]
theorem oE_ok {o : OpS} (h : ¬ (o.kind < 1 ∨ 14 < o.kind)) (h2 : opOk o = true) : oE o = 0 := by rw [oE, if_neg h, if_neg (by rw [h2]; decide)]
theorem oE_0 {o : OpS} (h : oE o = 0) : ¬ (o.kind < 1 ∨ 14 < o.kind) ∧ opOk o = true := by
  unfold oE at h
  split at h
  · cases h
  · rename_i h1
    split at h
    · cases h
    · rename_i h2
      exact ⟨h1, by cases hb : opOk o with | true => rfl | false => exact absurd hb h2⟩
section
variable {l : List OpS} {j : Nat} {o : OpS} {b s : List UInt8} {R : List UInt8 × List UInt8 × Int}
theorem enc_err (h : encF (l.drop j) b s = R) (ho : l[j]? = some o) (he : oE o ≠ 0) : R = ([], [], oE o) := by
  by_cases h1 : o.kind < 1 ∨ 14 < o.kind
  · rw [oE_kind h1]; exact enc_kind h ho h1
  · cases h2 : opOk o with
    | false => rw [oE_bad h1 h2]; exact enc_bad h ho h1 h2
    | true => exact absurd (oE_ok h1 h2) he
theorem enc_go (h : encF (l.drop j) b s = R) (ho : l[j]? = some o) (he : oE o = 0) : encF (l.drop (j + 1)) (b ++ encOne o) (s ++ txt o) = R := enc_next h ho (oE_0 he).1 (oE_0 he).2
end
structure OpGood (o : OpS) : Prop where
  tx : o.text.length ≤ 140737488351232
  wd : o.widths.length ≤ 140737488351232
  n : -9223372036854775808 ≤ o.n ∧ o.n ≤ 9223372036854775807
theorem enc1_12 {o : OpS} (h : o.kind = 12) : encOne o = putS o.kind (opN o) ++ wBytes o.widths := by rw [encOne, if_pos h]
theorem enc1_no {o : OpS} (h : ¬ o.kind = 12) : encOne o = putS o.kind (opN o) := by rw [encOne, if_neg h, List.append_nil]
theorem tot_drop {l : List OpS} {j : Nat} {o : OpS} (h : l[j]? = some o) : ((l.drop j).flatMap txt).length = (txt o).length + ((l.drop (j + 1)).flatMap txt).length := by rw [drop_at h]; simp

end Go.Proofs.YtpaecijilnfkhaaDoor
