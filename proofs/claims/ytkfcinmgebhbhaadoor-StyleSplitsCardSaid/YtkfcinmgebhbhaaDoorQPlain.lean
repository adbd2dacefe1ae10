/-
  Loops over lists, plainly.
-/
import Derived.Test.YtkfcinmgebhbhaaDoorQFuel
namespace Go.Lf
open Go

theorem wrap64 {x : Int} (h0 : -9223372036854775808 ≤ x) (h1 : x ≤ 9223372036854775807) : IntKind.wrap .i64 x = x := by
  simp only [IntKind.wrap]
  simp [IntKind.bits, IntKind.signed]
  omega
theorem wrapS {n : Nat} (h : n < 9223372036854775807) : IntKind.wrap .i64 ((n : Int) + 1) = ((n + 1 : Nat) : Int) := by
  rw [wrap64 (by omega) (by omega)]; omega
theorem idx_nat {α : Type} (l : List α) (i : Nat) : idx l (i : Int) = l[i]? := by
  unfold idx
  rw [if_pos (by omega)]; rfl
theorem sub_nat {α : Type} {l : List α} {a b : Nat} (h : a ≤ b) (hb : b ≤ l.length) : sub l (a : Int) (b : Int) = some ((l.drop a).take (b - a)) := by
  unfold sub
  rw [if_pos (by omega)]; rfl
theorem app_of {α : Type} {b : Nat} {l m : List α} (h : (l.length + m.length) * b ≤ 140737488355328) : app b l m = some (l ++ m) := if_pos h
theorem cat_of {l m : List UInt8} (h : l.length + m.length ≤ 9223372036854775807) : cat l m = some (l ++ m) := if_pos h
section
variable {α σ κ : Type}
/-- a list, one by one -/
def foldE (step : α → σ → Option (σ ⊕ κ)) (fin : σ → κ) : List α → σ → Option κ
  | [], s => some (fin s)
  | x :: r, s => (step x s).bind fun d => onSum d (foldE step fin r) some
theorem range_loop {l : List α} {B : Int × σ → Option ((Int × σ) ⊕ κ)} (step : α → σ → Option (σ ⊕ κ)) (fin : σ → κ)
    (h1 : ∀ (i : Nat) x s, l[i]? = some x → B ((i : Int), s) = (step x s).map fun d => onSum d (fun s' => .inl (((i + 1 : Nat) : Int), s')) .inr) (h2 : ∀ s, B ((l.length : Int), s) = some (.inr (fin s))) :
    ∀ (m i : Nat) (s : σ), i + m = l.length → loopC B ((i : Int), s) = foldE step fin (l.drop i) s
  | 0, i, s, h => by
    have : i = l.length := by omega
    subst this
    rw [loopC_step, h2, List.drop_length]
    rfl
  | m + 1, i, s, h => by
    have hlt : i < l.length := by omega
    rw [loopC_step, h1 i l[i] s (List.getElem?_eq_getElem hlt), List.drop_eq_getElem_cons hlt]
    unfold foldE
    cases step l[i] s with
    | none => rfl
    | some d =>
      cases d with
      | inl s' => exact range_loop step fin h1 h2 m (i + 1) s' (by omega)
      | inr k => rfl
/-- a list, one by one, with the elements' numbers -/
def foldI (step : Nat → α → σ → Option (σ ⊕ κ)) (fin : σ → κ) : Nat → List α → σ → Option κ
  | _, [], s => some (fin s)
  | i, x :: r, s => (step i x s).bind fun d => onSum d (foldI step fin (i + 1) r) some
theorem range_loopI {l : List α} {B : Int × σ → Option ((Int × σ) ⊕ κ)} (step : Nat → α → σ → Option (σ ⊕ κ)) (fin : σ → κ)
    (h1 : ∀ (i : Nat) x s, l[i]? = some x → B ((i : Int), s) = (step i x s).map fun d => onSum d (fun s' => .inl (((i + 1 : Nat) : Int), s')) .inr) (h2 : ∀ s, B ((l.length : Int), s) = some (.inr (fin s))) :
    ∀ (m i : Nat) (s : σ), i + m = l.length → loopC B ((i : Int), s) = foldI step fin i (l.drop i) s
  | 0, i, s, h => by
    have : i = l.length := by omega
    subst this
    rw [loopC_step, h2, List.drop_length]
    rfl
  | m + 1, i, s, h => by
    have hlt : i < l.length := by omega
    rw [loopC_step, h1 i l[i] s (List.getElem?_eq_getElem hlt), List.drop_eq_getElem_cons hlt]
    unfold foldI
    cases step i l[i] s with
    | none => rfl
    | some d =>
      cases d with
      | inl s' => exact range_loopI step fin h1 h2 m (i + 1) s' (by omega)
      | inr k => rfl
theorem range_loopI0 {l : List α} {B : Int → Option (Int ⊕ κ)} (step : Nat → α → Option (Unit ⊕ κ)) (fin : κ)
    (h1 : ∀ (i : Nat) x, l[i]? = some x → B (i : Int) = (step i x).map fun d => onSum d (fun _ => .inl ((i + 1 : Nat) : Int)) .inr) (h2 : B (l.length : Int) = some (.inr fin)) :
    ∀ (m i : Nat), i + m = l.length → loopC B (i : Int) = foldI (fun i x (_ : Unit) => step i x) (fun _ => fin) i (l.drop i) ()
  | 0, i, h => by
    have : i = l.length := by omega
    subst this
    rw [loopC_step, h2, List.drop_length]
    rfl
  | m + 1, i, h => by
    have hlt : i < l.length := by omega
    rw [loopC_step, h1 i l[i] (List.getElem?_eq_getElem hlt), List.drop_eq_getElem_cons hlt]
    unfold foldI
    cases step i l[i] with
    | none => rfl
    | some d =>
      cases d with
      | inl s' => exact range_loopI0 step fin h1 h2 m (i + 1) (by omega)
      | inr k => rfl
/-- the same of a loop whose state is the number alone -/
theorem range_loop0 {l : List α} {B : Int → Option (Int ⊕ κ)} (step : α → Option (Unit ⊕ κ)) (fin : κ)
    (h1 : ∀ (i : Nat) x, l[i]? = some x → B (i : Int) = (step x).map fun d => onSum d (fun _ => .inl ((i + 1 : Nat) : Int)) .inr) (h2 : B (l.length : Int) = some (.inr fin)) :
    ∀ (m i : Nat), i + m = l.length → loopC B (i : Int) = foldE (fun x (_ : Unit) => step x) (fun _ => fin) (l.drop i) ()
  | 0, i, h => by
    have : i = l.length := by omega
    subst this
    rw [loopC_step, h2, List.drop_length]
    rfl
  | m + 1, i, h => by
    have hlt : i < l.length := by omega
    rw [loopC_step, h1 i l[i] (List.getElem?_eq_getElem hlt), List.drop_eq_getElem_cons hlt]
    unfold foldE
    cases step l[i] with
    | none => rfl
    | some d =>
      cases d with
      | inl s' => exact range_loop0 step fin h1 h2 m (i + 1) (by omega)
      | inr k => rfl
end
end Go.Lf
