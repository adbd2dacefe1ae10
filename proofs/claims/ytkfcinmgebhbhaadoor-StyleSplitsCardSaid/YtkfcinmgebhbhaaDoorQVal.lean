/-
  Types, their plain values, and how memory holds them.
-/
import Derived.Test.YtkfcinmgebhbhaaDoorQMem
namespace Go.Lf
open Go Go.Eng Go.RowKit

inductive Ty where
  | int (k : IntKind) | bool | str | unit
  | dead (el : Nat) (t : Ty)      -- a place from which a slice of the kind 'mr' was taken
  | sl (t : Ty)                   -- a slice
  | rw (el : Nat) (t : Ty)        -- a slice with the right to append
  | mr (el : Nat) (t : Ty)        -- a slice that nobody else sees
  | ptr (t : Ty)                  -- a pointer to what no more turns
  | eb (te : Nat) (t : Ty)        -- an interface value: nil, or a pointer of one type to what no more turns
  | st (t : Ty) | pr (a b : Ty)
  deriving DecidableEq

@[reducible] def Ty.den : Ty → Type
  | .int _ => Int
  | .bool => Bool
  | .str => List UInt8
  | .unit => Unit
  | .dead _ _ => Unit
  | .sl t => List t.den
  | .rw _ t => List t.den
  | .mr _ t => List t.den
  | .ptr t => t.den
  | .eb _ t => Option t.den
  | .st t => t.den
  | .pr a b => a.den × b.den

abbrev Dn := Sigma Ty.den

/-- how many cells -/
def Ty.size : Ty → Nat
  | .unit => 0
  | .st t => t.size
  | .pr a b => a.size + b.size
  | _ => 1

/-- without rights (a 'dead' one stands for a slice) -/
def Ty.er : Ty → Ty
  | .dead _ t => .sl t
  | .rw _ t => .sl t
  | .mr _ t => .sl t
  | .st t => .st t.er
  | .pr a b => .pr a.er b.er
  | t => t

theorem Ty.er_size (t : Ty) : t.er.size = t.size := by
  induction t <;> simp_all [Ty.er, Ty.size]

inductive All2 {α β : Type} (R : α → β → Prop) : List α → List β → Prop
  | nil : All2 R [] []
  | cons {a : α} {b : β} {l : List α} {m : List β} : R a b → All2 R l m → All2 R (a :: l) (b :: m)
section
variable {α β : Type} {R R' : α → β → Prop}
theorem All2.length {l : List α} {m : List β} (h : All2 R l m) : l.length = m.length := by
  induction h with
  | nil => rfl
  | cons _ _ ih => simp [ih]
theorem All2.get {l : List α} {m : List β} (h : All2 R l m) {i : Nat} {a : α} (ha : l[i]? = some a) : ∃ b, m[i]? = some b ∧ R a b := by
  induction h generalizing i with
  | nil => simp at ha
  | cons h1 _ ih =>
    cases i with
    | zero => simp only [List.getElem?_cons_zero, Option.some.injEq] at ha; subst ha; exact ⟨_, rfl, h1⟩
    | succ i => exact ih (by simpa using ha)
theorem All2.imp {l : List α} {m : List β} (h : All2 R l m) (hi : ∀ a b, R a b → R' a b) : All2 R' l m := by
  induction h with
  | nil => exact .nil
  | cons h1 _ ih => exact .cons (hi _ _ h1) ih
theorem All2.append {l l' : List α} {m m' : List β} (h : All2 R l m) (h' : All2 R l' m') : All2 R (l ++ l') (m ++ m') := by
  induction h with
  | nil => exact h'
  | cons h1 _ ih => exact .cons h1 ih
theorem All2.take {l : List α} {m : List β} (h : All2 R l m) (n : Nat) : All2 R (l.take n) (m.take n) := by
  induction h generalizing n with
  | nil => simp; exact .nil
  | cons h1 _ ih => cases n with
    | zero => simp; exact .nil
    | succ n => simp; exact .cons h1 (ih n)
theorem All2.drop {l : List α} {m : List β} (h : All2 R l m) (n : Nat) : All2 R (l.drop n) (m.drop n) := by
  induction h generalizing n with
  | nil => simp; exact .nil
  | cons h1 h2 ih => cases n with
    | zero => simp; exact .cons h1 h2
    | succ n => simp; exact ih n
theorem All2.set {l : List α} {m : List β} (h : All2 R l m) (n : Nat) {a : α} {b : β} (hab : R a b) : All2 R (l.set n a) (m.set n b) := by
  induction h generalizing n with
  | nil => simp; exact .nil
  | cons h1 h2 ih => cases n with
    | zero => simp; exact .cons hab h2
    | succ n => simp; exact .cons h1 (ih n)
theorem All2.replicate {a : α} {b : β} (h : R a b) (n : Nat) : All2 R (List.replicate n a) (List.replicate n b) := by
  induction n with
  | zero => exact .nil
  | succ n ih => exact .cons h ih
theorem All2.one {a : α} {b : β} (h : R a b) : All2 R [a] [b] := .cons h .nil
end

/-- Lists of lists of one length, laid flat. -/
theorem flat_len {s : Nat} : ∀ (l : List (List Value)), (∀ c ∈ l, c.length = s) → l.flatten.length = l.length * s
  | [], _ => by simp
  | c :: r, h => by
    have h1 := h c List.mem_cons_self
    have h2 := flat_len r fun d hd => h d (List.mem_cons_of_mem _ hd)
    simp only [List.flatten_cons, List.length_append, h1, h2, List.length_cons, Nat.succ_mul]
    omega
theorem flat_get {s : Nat} : ∀ (l : List (List Value)), (∀ c ∈ l, c.length = s) → ∀ (i : Nat) (c : List Value), l[i]? = some c → ∀ (j : Nat) (v : Value), c[j]? = some v → l.flatten[i * s + j]? = some v
  | [], _, i, c, hc => by simp at hc
  | d :: r, h, i, c, hc => by
    intro j v hv
    have h1 := h d List.mem_cons_self
    cases i with
    | zero =>
      simp only [List.getElem?_cons_zero, Option.some.injEq] at hc
      subst hc
      have hj := (List.getElem?_eq_some_iff.1 hv).1
      simp only [List.flatten_cons, Nat.zero_mul, Nat.zero_add]
      rw [List.getElem?_append_left hj]
      exact hv
    | succ i =>
      have ih := flat_get r (fun e he => h e (List.mem_cons_of_mem _ he)) i c (by simpa using hc) j v hv
      simp only [List.flatten_cons]
      rw [List.getElem?_append_right (by rw [h1, Nat.succ_mul]; omega), h1, show (i + 1) * s + j - s = i * s + j by rw [Nat.succ_mul]; omega]
      exact ih
theorem flat_take {s : Nat} : ∀ (l : List (List Value)), (∀ c ∈ l, c.length = s) → ∀ n, (l.take n).flatten = l.flatten.take (n * s)
  | [], _, n => by simp
  | d :: r, h, n => by
    have h1 := h d List.mem_cons_self
    cases n with
    | zero => simp
    | succ n =>
      have ih := flat_take r (fun e he => h e (List.mem_cons_of_mem _ he)) n
      simp only [List.take_succ_cons, List.flatten_cons, ih]
      rw [List.take_append, h1, Nat.succ_mul, show n * s + s - s = n * s by omega, List.take_of_length_le (l := d) (by omega)]
theorem flat_drop {s : Nat} : ∀ (l : List (List Value)), (∀ c ∈ l, c.length = s) → ∀ n, (l.drop n).flatten = l.flatten.drop (n * s)
  | [], _, n => by simp
  | d :: r, h, n => by
    have h1 := h d List.mem_cons_self
    cases n with
    | zero => simp
    | succ n =>
      have ih := flat_drop r (fun e he => h e (List.mem_cons_of_mem _ he)) n
      simp only [List.drop_succ_cons, List.flatten_cons, ih]
      rw [List.drop_append, h1, Nat.succ_mul, show n * s + s - s = n * s by omega, List.drop_eq_nil_of_le (as := d) (by omega)]
      simp
theorem flat_set {s : Nat} : ∀ (l : List (List Value)), (∀ c ∈ l, c.length = s) → ∀ (n : Nat) (c : List Value), n < l.length → c.length = s → (l.set n c).flatten = l.flatten.take (n * s) ++ c ++ l.flatten.drop (n * s + s)
  | [], _, n, c, hn => by simp at hn
  | d :: r, h, n, c, hn => by
    intro hc
    have h1 := h d List.mem_cons_self
    cases n with
    | zero => simp [List.drop_append, h1]
    | succ n =>
      have ih := flat_set r (fun e he => h e (List.mem_cons_of_mem _ he)) n c (by simpa using hn) hc
      simp only [List.set_cons_succ, List.flatten_cons, ih]
      rw [List.take_append, List.drop_append, h1, Nat.succ_mul, show n * s + s - s = n * s by omega, show n * s + s + s - s = n * s + s by omega, List.take_of_length_le (l := d) (by omega), List.drop_eq_nil_of_le (as := d) (i := n * s + s + s) (by omega)]
      simp

/-! ### Memory that no more turns: a part of the cells -/
abbrev Phi := Addr → Option Value
def Agree (φ : Phi) (w : World) : Prop := ∀ a v, φ a = some v → w.cell? a = some v
def Phi.le (φ ψ : Phi) : Prop := ∀ a v, φ a = some v → ψ a = some v
theorem Phi.le_refl (φ : Phi) : φ.le φ := fun _ _ h => h
theorem Phi.le_trans {a b c : Phi} (h : a.le b) (h' : b.le c) : a.le c := fun x v hx => h' x v (h x v hx)
/-- from an address on -/
def PhiAt (φ : Phi) (a : Addr) (cs : List Value) : Prop := ∀ j v, cs[j]? = some v → φ (a.add j) = some v
theorem PhiAt.mono {φ ψ : Phi} (h : φ.le ψ) {a : Addr} {cs : List Value} (hp : PhiAt φ a cs) : PhiAt ψ a cs := fun j v hv => h _ _ (hp j v hv)
def RdPhi (φ : Phi) (A : Option Addr) (n : Nat) (cs : List Value) : Prop := 0 < n → ∃ ad, A = some ad ∧ PhiAt φ ad cs
theorem RdPhi.mono {φ ψ : Phi} (h : φ.le ψ) {A : Option Addr} {n : Nat} {cs : List Value} (hp : RdPhi φ A n cs) : RdPhi ψ A n cs := fun hn => let ⟨ad, h1, h2⟩ := hp hn; ⟨ad, h1, h2.mono h⟩

/-- The cells that hold a value, and the blocks that belong to it alone. -/
def Rp (φ : Phi) : (t : Ty) → t.den → List Value → List Chunk → Prop
  | .int k, x, cs, hs => cs = [.int k x] ∧ hs = []
  | .bool, x, cs, hs => cs = [.bool x] ∧ hs = []
  | .str, x, cs, hs => cs = [Eng.str x] ∧ hs = []
  | .unit, _, cs, hs => cs = [] ∧ hs = []
  | .dead _ _, _, cs, hs => ∃ A n c, cs = [.slice A n c] ∧ hs = []
  | .sl t, l, cs, hs => ∃ A c css, cs = [.slice A l.length c] ∧ l.length ≤ c ∧ All2 (fun x cs => Rp φ t x cs []) l css ∧ RdPhi φ A l.length css.flatten ∧ hs = []
  | .rw el t, l, cs, hs => ∃ A c css, cs = [.slice A l.length c] ∧ l.length ≤ c ∧ All2 (fun x cs => Rp φ t x cs []) l css ∧ RdPhi φ A l.length css.flatten ∧ hs = [.row true (.slice A l.length c) el t.size l.length css.flatten]
  | .mr el t, l, cs, hs => ∃ A c css, cs = [.slice A l.length c] ∧ l.length ≤ c ∧ All2 (fun x cs => Rp φ t x cs []) l css ∧ (0 < l.length → A.isSome = true) ∧ hs = [.row false (.slice A l.length c) el t.size l.length css.flatten]
  | .ptr t, x, cs, hs => ∃ ad cs', cs = [.pointer (some ad)] ∧ Rp φ t x cs' [] ∧ PhiAt φ ad cs' ∧ hs = []
  | .eb te t, x, cs, hs => hs = [] ∧ match x with
    | none => cs = [.nilIface]
    | some y => ∃ ad cs', cs = [.iface te (.pointer (some ad))] ∧ Rp φ t y cs' [] ∧ PhiAt φ ad cs'
  | .st t, x, cs, hs => Rp φ t x cs hs
  | .pr a b, x, cs, hs => ∃ c1 c2 h1 h2, cs = c1 ++ c2 ∧ hs = h1 ++ h2 ∧ Rp φ a x.1 c1 h1 ∧ Rp φ b x.2 c2 h2

theorem Rp.len {φ : Phi} : ∀ {t : Ty} {x : t.den} {cs : List Value} {hs : List Chunk}, Rp φ t x cs hs → cs.length = t.size
  | .int _, _, _, _, h => by rw [h.1]; rfl
  | .bool, _, _, _, h => by rw [h.1]; rfl
  | .str, _, _, _, h => by rw [h.1]; rfl
  | .unit, _, _, _, h => by rw [h.1]; rfl
  | .dead _ _, _, _, _, h => by obtain ⟨_, _, _, h1, _⟩ := h; rw [h1]; rfl
  | .sl _, _, _, _, h => by obtain ⟨_, _, _, h1, _⟩ := h; rw [h1]; rfl
  | .rw _ _, _, _, _, h => by obtain ⟨_, _, _, h1, _⟩ := h; rw [h1]; rfl
  | .mr _ _, _, _, _, h => by obtain ⟨_, _, _, h1, _⟩ := h; rw [h1]; rfl
  | .ptr _, _, _, _, h => by obtain ⟨_, _, h1, _⟩ := h; rw [h1]; rfl
  | .eb _ _, none, _, _, h => by rw [h.2]; rfl
  | .eb _ _, some _, _, _, h => by obtain ⟨_, _, _, h1, _⟩ := h; rw [h1]; rfl
  | .st t, _, _, _, h => Rp.len (t := t) h
  | .pr a b, _, _, _, h => by
    obtain ⟨_, _, _, _, h1, _, h3, h4⟩ := h
    rw [h1, List.length_append, Rp.len h3, Rp.len h4]; rfl

theorem Rp.mono {φ ψ : Phi} (hle : φ.le ψ) : ∀ {t : Ty} {x : t.den} {cs : List Value} {hs : List Chunk}, Rp φ t x cs hs → Rp ψ t x cs hs
  | .int _, _, _, _, h => h
  | .bool, _, _, _, h => h
  | .str, _, _, _, h => h
  | .unit, _, _, _, h => h
  | .dead _ _, _, _, _, h => h
  | .sl _, _, _, _, h => by obtain ⟨A, c, css, h1, h2, h3, h4, h5⟩ := h; exact ⟨A, c, css, h1, h2, h3.imp fun _ _ h => Rp.mono hle h, h4.mono hle, h5⟩
  | .rw _ _, _, _, _, h => by obtain ⟨A, c, css, h1, h2, h3, h4, h5⟩ := h; exact ⟨A, c, css, h1, h2, h3.imp fun _ _ h => Rp.mono hle h, h4.mono hle, h5⟩
  | .mr _ _, _, _, _, h => by obtain ⟨A, c, css, h1, h2, h3, h5⟩ := h; exact ⟨A, c, css, h1, h2, h3.imp fun _ _ h => Rp.mono hle h, h5⟩
  | .ptr _, _, _, _, h => by obtain ⟨ad, cs', h1, h2, h3, h4⟩ := h; exact ⟨ad, cs', h1, Rp.mono hle h2, h3.mono hle, h4⟩
  | .eb _ _, none, _, _, h => h
  | .eb _ _, some _, _, _, h => by obtain ⟨h0, ad, cs', h1, h2, h3⟩ := h; exact ⟨h0, ad, cs', h1, Rp.mono hle h2, h3.mono hle⟩
  | .st t, _, _, _, h => Rp.mono (t := t) hle h
  | .pr a b, _, _, _, h => by
    obtain ⟨c1, c2, h1, h2, e1, e2, h3, h4⟩ := h
    exact ⟨c1, c2, h1, h2, e1, e2, Rp.mono hle h3, Rp.mono hle h4⟩

theorem Rp.one {φ : Phi} : ∀ {t : Ty} {x : t.den} {cs : List Value} {hs : List Chunk}, Rp φ t x cs hs → ∀ v ∈ cs, v.oneCell' = true
  | .int _, _, _, _, h => by rw [h.1]; simp [Value.oneCell']
  | .bool, _, _, _, h => by rw [h.1]; simp [Value.oneCell']
  | .str, _, _, _, h => by rw [h.1]; simp [Value.oneCell']
  | .unit, _, _, _, h => by rw [h.1]; simp
  | .dead _ _, _, _, _, h => by obtain ⟨_, _, _, h1, _⟩ := h; rw [h1]; simp [Value.oneCell']
  | .sl _, _, _, _, h => by obtain ⟨_, _, _, h1, _⟩ := h; rw [h1]; simp [Value.oneCell']
  | .rw _ _, _, _, _, h => by obtain ⟨_, _, _, h1, _⟩ := h; rw [h1]; simp [Value.oneCell']
  | .mr _ _, _, _, _, h => by obtain ⟨_, _, _, h1, _⟩ := h; rw [h1]; simp [Value.oneCell']
  | .ptr _, _, _, _, h => by obtain ⟨_, _, h1, _⟩ := h; rw [h1]; simp [Value.oneCell']
  | .eb _ _, none, _, _, h => by rw [h.2]; simp [Value.oneCell']
  | .eb _ _, some _, _, _, h => by obtain ⟨_, _, _, h1, _⟩ := h; rw [h1]; simp [Value.oneCell']
  | .st t, _, _, _, h => Rp.one (t := t) h
  | .pr a b, _, _, _, h => by
    obtain ⟨_, _, _, _, h1, _, h3, h4⟩ := h
    rw [h1]
    intro v hv
    rcases List.mem_append.1 hv with hv | hv
    · exact Rp.one h3 v hv
    · exact Rp.one h4 v hv

/-- A value that a slot holds. -/
def sv : Ty → List Value → Value
  | .st _, cs => .agg cs.toArray
  | _, [v] => v
  | _, _ => undef
/-- Types of slots. -/
def Ty.top : Ty → Bool
  | .unit => false
  | .pr _ _ => false
  | .dead _ _ => false
  | .mr _ _ => false
  | _ => true
end Go.Lf
