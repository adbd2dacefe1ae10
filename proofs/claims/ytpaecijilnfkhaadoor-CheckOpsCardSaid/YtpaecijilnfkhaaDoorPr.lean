/- Plain words: the references. -/
import Derived.Test.YtpaecijilnfkhaaDoorPl

namespace Go.Proofs.YtpaecijilnfkhaaDoor
open Go Go.Eng Go.RowKit

/-! octet's number as the reference takes it -/
def gv : List UInt8 → Nat
  | [] => 0
  | x :: r => x.toNat % 128 + 128 * gv r
theorem gv_app (l : List UInt8) (x : UInt8) : gv (l ++ [x]) = gv l + x.toNat % 128 * 128 ^ l.length := by
  induction l with
  | nil => simp [gv]
  | cons y r ih => rw [List.cons_append, gv, gv, ih, List.length_cons, Nat.pow_succ, Nat.mul_add]; rw [show 128 * (x.toNat % 128 * 128 ^ r.length) = x.toNat % 128 * (128 ^ r.length * 128) by rw [Nat.mul_left_comm, Nat.mul_comm 128 (128 ^ _)]]; omega
theorem gv_lt (l : List UInt8) : gv l < 128 ^ l.length := by
  induction l with
  | nil => simp [gv]
  | cons y r ih => rw [gv, List.length_cons, Nat.pow_succ]; omega
theorem gv_step {b : List UInt8} {p m : Nat} {x : UInt8} (h : b[p]? = some x) : gv ((b.drop p).take (m + 1)) = x.toNat % 128 + 128 * gv ((b.drop (p + 1)).take m) := by
  rw [drop_cons h, List.take_succ_cons, gv]
theorem pow128_le {i j : Nat} (h : i ≤ j) : (128 : Nat) ^ i ≤ 128 ^ j := Nat.pow_le_pow_right (by omega) h
theorem gv_bound {b : List UInt8} {a n k : Nat} (hn : n ≤ 9) (ha : a + n < b.length) (h9 : ∀ x, n = 9 → b[a + n]? = some x → x.toNat ≤ 1) (hk : k ≤ n + 1) : gv ((b.drop (a + k)).take (n + 1 - k)) < 18446744073709551616 := by
  have hlen : ((b.drop (a + k)).take (n + 1 - k)).length = n + 1 - k := by simp; omega
  by_cases h : n ≤ 8
  · have h1 := gv_lt ((b.drop (a + k)).take (n + 1 - k))
    rw [hlen] at h1
    have h2 := pow128_le (show n + 1 - k ≤ 9 by omega)
    omega
  · have hn9 : n = 9 := by omega
    subst hn9
    by_cases h10 : k = 10
    · subst h10
      simp [gv]
    · have hx := List.getElem?_eq_getElem (l := b) (i := a + 9) ha
      have h1 := h9 _ rfl hx
      have h2 : (b.drop (a + k)).take (9 + 1 - k) = (b.drop (a + k)).take (9 - k) ++ [b[a + 9]] := by
        rw [show 9 + 1 - k = (9 - k) + 1 by omega, List.take_add_one, List.getElem?_drop, show a + k + (9 - k) = a + 9 by omega, hx]
        rfl
      rw [h2, gv_app]
      have hl : ((b.drop (a + k)).take (9 - k)).length = 9 - k := by simp; omega
      have h3 := gv_lt ((b.drop (a + k)).take (9 - k))
      rw [hl] at h3 ⊢
      have h4 := pow128_le (show 9 - k ≤ 9 by omega)
      have h5 : (b[a + 9]).toNat % 128 * 128 ^ (9 - k) ≤ 1 * 128 ^ 9 := Nat.mul_le_mul (by omega) h4
      omega
theorem numS_skip : ∀ (n : Nat) (l : List UInt8) (i acc : Nat), (∀ j x, j < n → l[j]? = some x → 128 ≤ x.toNat) → n ≤ l.length → i + n ≤ 9 → numS l i acc = numS (l.drop n) (i + n) (acc + gv (l.take n) * 128 ^ i)
  | 0, l, i, acc, _, _, _ => by simp [gv]
  | n + 1, [], i, acc, _, h, _ => by simp at h
  | n + 1, x :: r, i, acc, h, hn, hi => by
    have h0 := h 0 x (by omega) rfl
    rw [numS_step (by omega) (by omega) (by omega), numS_skip n r (i + 1) _ (fun j y hj hy => h (j + 1) y (by omega) (by simpa using hy)) (by simpa using hn) (by omega)]
    rw [List.drop_succ_cons, List.take_succ_cons, gv, show i + 1 + n = i + (n + 1) by omega]
    congr 1
    rw [Nat.add_mul, Nat.pow_succ]
    have : gv (r.take n) * (128 ^ i * 128) = 128 * gv (r.take n) * 128 ^ i := by rw [Nat.mul_comm (128 ^ i) 128, ← Nat.mul_assoc, Nat.mul_comm (gv _) 128]
    omega
section
variable {b : List UInt8} {a n : Nat}
theorem skip_at (h : ∀ j x, j < n → b[a + j]? = some x → 128 ≤ x.toNat) : ∀ m, m ≤ n → ∀ j x, j < m → (b.drop a)[j]? = some x → 128 ≤ x.toNat := fun m hm j x hj hx => h j x (by omega) (by rwa [List.getElem?_drop] at hx)
theorem skip_snoc {x : UInt8} (h : ∀ j y, j < n → b[a + j]? = some y → 128 ≤ y.toNat) (hx : b[a + n]? = some x) (h1 : 128 ≤ x.toNat) : ∀ j y, j < n + 1 → b[a + j]? = some y → 128 ≤ y.toNat := fun j y hj hy => by
  by_cases he : j = n
  · subst he; rw [hx] at hy; injection hy with hy; subst hy; exact h1
  · exact h j y (by omega) hy
theorem take_10 (h : ∀ j x, j < n → b[a + j]? = some x → 128 ≤ x.toNat) (hn : n = 10) (hl : a + n ≤ b.length) : numS (b.drop a) 0 0 = .error 31 := by
  subst hn
  have hx := List.getElem?_eq_getElem (l := b) (i := a + 9) (by omega)
  have h9 := h 9 _ (by omega) hx
  rw [numS_skip 9 _ 0 0 (skip_at h 9 (by omega)) (by simp; omega) (by omega), List.drop_drop, drop_cons hx, numS_bad (.inr ⟨rfl, by omega⟩)]
theorem take_torn (h : ∀ j x, j < n → b[a + j]? = some x → 128 ≤ x.toNat) (hn : n ≤ 9) (hl : a + n = b.length) : numS (b.drop a) 0 0 = .error 30 := by
  rw [numS_skip n _ 0 0 (skip_at h n (Nat.le_refl _)) (by simp; omega) (by omega), List.drop_drop, List.drop_eq_nil_of_le (by omega)]
  rfl
theorem take_form {x : UInt8} (h : ∀ j x, j < n → b[a + j]? = some x → 128 ≤ x.toNat) (hn : n ≤ 9) (hx : b[a + n]? = some x) (h1 : x.toNat < 128) (h2 : (0 < n ∧ x.toNat = 0) ∨ (n = 9 ∧ 1 < x.toNat)) : numS (b.drop a) 0 0 = .error 31 := by
  have hlt := (List.getElem?_eq_some_iff.1 hx).1
  rw [numS_skip n _ 0 0 (skip_at h n (Nat.le_refl _)) (by simp; omega) (by omega), List.drop_drop, drop_cons hx]
  by_cases h3 : n = 9 ∧ 1 < x.toNat
  · exact numS_bad (.inr ⟨by omega, h3.2⟩)
  · exact numS_zero (by omega) h1 (by omega)
theorem take_ok {x : UInt8} (h : ∀ j x, j < n → b[a + j]? = some x → 128 ≤ x.toNat) (hn : n ≤ 9) (hx : b[a + n]? = some x) (h1 : x.toNat < 128) (h2 : ¬ ((0 < n ∧ x.toNat = 0) ∨ (n = 9 ∧ 1 < x.toNat))) : numS (b.drop a) 0 0 = .ok (gv ((b.drop a).take (n + 1)), n + 1) := by
  have hlt := (List.getElem?_eq_some_iff.1 hx).1
  rw [numS_skip n _ 0 0 (skip_at h n (Nat.le_refl _)) (by simp; omega) (by omega), List.drop_drop, drop_cons hx, numS_end (by omega) h1 (by omega)]
  have h3 : (b.drop a).take (n + 1) = (b.drop a).take n ++ [x] := by rw [List.take_add_one, List.getElem?_drop, hx]; rfl
  rw [h3, gv_app, Nat.zero_add, Nat.zero_add, Nat.pow_zero, Nat.mul_one, Nat.mod_eq_of_lt h1, show ((b.drop a).take n).length = n by simp; omega]
end
theorem fin_big {b : List UInt8} {at_ long kind n : Int} (h : 1 ≤ kind ∧ kind ≤ 15) (h2 : 2147483647 < n) (h3 : ¬ (kind = 2 ∨ kind = 3 ∨ kind = 4 ∨ kind = 10 ∨ kind = 8)) : finS b at_ long kind n = (zeroI, 161) := by
  unfold finS
  repeat (first | rw [if_pos (by omega)] | rw [if_neg (by omega)] | split)
  all_goals first | rfl | omega
/-! the reference's machine -/
structure LevS where
  table : Bool
  items : Int
  wide : Int
  rows : Int
  cells : Int
structure MachS where
  para : Bool
  braces : List Bool
  open_ : List LevS
  text : Bool
def bocells (l : List Bool) : List Value := l.map .bool
def lcell (l : LevS) : List Value := [.bool l.table, .int .i64 l.items, .int .i64 l.wide, .int .i64 l.rows, .int .i64 l.cells]
def fullS (l : LevS) : Bool := decide (l.rows = 0 ∨ l.cells = l.wide)
def MachS.deep (m : MachS) : Int := m.open_.length + m.braces.length + (if m.para then 1 else 0)
def MachS.done (m : MachS) : Bool := !m.para && m.open_.isEmpty
def inlineS (m : MachS) (k : Int) : Bool × MachS :=
  if m.para = false then (false, m)
  else if k = 1 then (!m.text, m)
  else if k = 2 ∨ k = 3 ∨ k = 4 then
    (if 16 ≤ m.braces.length ∨ (k ≠ 2 ∧ m.braces.any id = true) then (false, m) else (true, { m with braces := m.braces ++ [decide (k ≠ 2)] }))
  else if k = 5 then (if m.braces.length = 0 then (false, m) else (true, { m with braces := m.braces.take (m.braces.length - 1) }))
  else if k = 9 then (if 0 < m.braces.length then (false, m) else (true, { m with para := false }))
  else (true, m)
def MachS.top (m : MachS) : Option LevS := m.open_[m.open_.length - 1]?
def MachS.setTop (m : MachS) (l : LevS) : MachS := { m with open_ := m.open_.set (m.open_.length - 1) l }
def blockS (m : MachS) (k wl : Int) : Bool × MachS :=
  if m.para = true then (false, m)
  else if k = 8 then
    (match m.top with
     | none => (true, { m with para := true })
     | some l => if (l.table = true ∧ (l.rows = 0 ∨ l.wide ≤ l.cells)) ∨ (l.table = false ∧ l.items = 0) then (false, m)
       else (true, ⟨true, m.braces, m.open_.set (m.open_.length - 1) { l with cells := l.cells + 1 }, m.text⟩))
  else if k = 10 then
    (match m.top with
     | none => (true, { m with open_ := m.open_ ++ [⟨false, 0, 0, 0, 0⟩] })
     | some l => if (l.table = true ∨ l.items = 0) ∨ 8 ≤ m.open_.length then (false, m) else (true, { m with open_ := m.open_ ++ [⟨false, 0, 0, 0, 0⟩] }))
  else if k = 11 then
    (match m.top with
     | none => (false, m)
     | some l => if l.table = true then (false, m) else (true, { m with open_ := m.open_.set (m.open_.length - 1) { l with items := l.items + 1 } }))
  else if k = 12 then
    (match m.top with
     | none => (true, { m with open_ := m.open_ ++ [⟨true, 0, wl, 0, 0⟩] })
     | some _ => (false, m))
  else if k = 13 then
    (match m.top with
     | none => (false, m)
     | some l => if l.table = false ∨ fullS l = false then (false, m) else (true, { m with open_ := m.open_.set (m.open_.length - 1) { l with rows := l.rows + 1, cells := 0 } }))
  else if k = 14 then
    (match m.top with
     | none => (false, m)
     | some l => if l.table = true ∧ fullS l = false then (false, m) else (true, { m with open_ := m.open_.take (m.open_.length - 1) }))
  else (true, m)
def machStep (m : MachS) (k wl : Int) : Bool × MachS :=
  let r := if k ≤ 7 ∨ k = 9 then inlineS m k else blockS m k wl
  (r.1, { r.2 with text := decide (k = 1) })

end Go.Proofs.YtpaecijilnfkhaaDoor
