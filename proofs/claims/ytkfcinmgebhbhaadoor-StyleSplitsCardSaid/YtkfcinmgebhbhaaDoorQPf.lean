/- Chapter 6, plainly: a text read. -/
import Derived.Test.YtkfcinmgebhbhaaDoorQPe
namespace Go.Fn
open Go Go.Lf

/-- the first colon -/
def p58 : Bs → Option Nat
  | [] => none
  | b :: r => if b.toNat = 58 then some 0 else (p58 r).map (· + 1)
theorem p58_lt : ∀ (s : Bs) (i : Nat), p58 s = some i → i < s.length
  | [], i, h => by cases h
  | b :: r, i, h => by
    unfold p58 at h
    split at h
    · injection h with h; subst h; simp
    · cases hr : p58 r with
      | none => rw [hr] at h; cases h
      | some j =>
        rw [hr] at h
        have := p58_lt r j hr
        have h : j + 1 = i := by injection h
        simp only [List.length_cons]; omega
theorem byte_eq {b c : UInt8} : b = c ↔ b.toNat = c.toNat := ⟨fun h => by rw [h], fun h => UInt8.toNat_inj.1 h⟩
theorem index58 : ∀ s : Bs, Lib.index s [58] = match p58 s with | none => -1 | some i => (i : Int)
  | [] => rfl
  | b :: r => by
    have ih := index58 r
    unfold Lib.index p58
    by_cases hb : b.toNat = 58
    · have : b = 58 := byte_eq.2 (by rw [hb]; rfl)
      subst this
      simp [List.isPrefixOf]
    · have h1 : ¬ (58 : UInt8) = b := fun e => hb (by rw [← e]; rfl)
      have h2 : ([58] : Bs).isPrefixOf (b :: r) = false := by simp [List.isPrefixOf, h1]
      rw [h2, ih]
      simp only [hb, if_false, Bool.false_eq_true]
      cases p58 r with
      | none => rfl
      | some i =>
        have : ((i : Int) == -1) = false := by simp
        simp only [this]
        rfl
theorem cut58 (s : Bs) : Lib.cut s [58] = match p58 s with | none => (s, [], false) | some i => (s.take i, s.drop (i + 1), true) := by
  unfold Lib.cut
  rw [index58]
  cases p58 s with
  | none => rfl
  | some i => simp
/-- a style's own name and its base's -/
def nm (s : Bs) : Bs × Bs × Bool := match p58 s with
  | none => (s, [], okName s)
  | some i => (s.take i, s.drop (i + 1), okName (s.take i) && okName (s.drop (i + 1)))
theorem rnames_eq (s : Bs) (hs : s.length ≤ 4096) : folioref06_names s = some (nm s) := by
  unfold folioref06_names
  have h := range_loopI0 (l := s) (κ := Unit ⊕ (Bs × Bs × Bool)) (B := fun z1 => bif (decide (z1 < (((List.length s) : Nat) : Int))) then ((Go.Lf.idx s z1)).bind fun r2 =>
     bif (decide (((((UInt8.toNat r2) : Nat) : Int) : Int) = (58 : Int))) then (((Go.Lf.sub s (0 : Int) z1)).bind fun r3 =>
       ((Go.Lf.sub s (Go.IntKind.wrap .i64 (z1 + (1 : Int))) (((List.length s) : Nat) : Int))).bind fun r4 =>
       ((Go.Lf.sub s (0 : Int) z1)).bind fun r5 =>
       ((Go.Fn.folioref06_Name r5)).bind fun r6 =>
       bif r6 then ((Go.Lf.sub s (Go.IntKind.wrap .i64 (z1 + (1 : Int))) (((List.length s) : Nat) : Int))).bind fun r7 =>
       ((Go.Fn.folioref06_Name r7)).bind fun r8 =>
       some (r3, (r4, r8))
       else some (r3, (r4, false))).bind fun r9 =>
     some (.inr (.inr (r9.1, (r9.2.1, r9.2.2))))
     else some (.inl (Go.IntKind.wrap .i64 (z1 + (1 : Int))))
     else some (.inr (.inl ()))) (fun i b => if b.toNat = 58 then some (.inr (.inr (s.take i, s.drop (i + 1), okName (s.take i) && okName (s.drop (i + 1))))) else some (.inl ())) (.inl ()) (fun i x hx => by
      have hlt : i < s.length := (List.getElem?_eq_some_iff.1 hx).1
      have e1 : (i : Int) < ((s.length : Nat) : Int) := by omega
      have e2 : sub s 0 (i : Int) = some (s.take i) := by
        have := sub_nat (l := s) (a := 0) (b := i) (by omega) (by omega)
        simpa using this
      have e3 : sub s ((i + 1 : Nat) : Int) ((s.length : Nat) : Int) = some (s.drop (i + 1)) := by
        rw [sub_nat (by omega) (by omega)]
        rw [List.take_of_length_le (by simp)]
      rw [idx_nat, hx, wrapS (by omega)]
      simp only [e1, decide_true, cond_true, Option.bind_some, e2, e3]
      rw [rname_eq _ (by simp; omega), rname_eq _ (by simp; omega)]
      by_cases h58 : x.toNat = 58
      · have : ((x.toNat : Nat) : Int) = 58 := by omega
        cases hk : okName (s.take i) <;> simp [h58, onSum]
      · have : ¬ ((x.toNat : Nat) : Int) = 58 := by omega
        simp [h58, this, onSum]) (by simp) s.length 0 (by omega)
  rw [List.drop_zero] at h
  have key : ∀ (l : Bs) (k : Nat), foldI (fun i b (_ : Unit) => if b.toNat = 58 then some (.inr (.inr (s.take i, s.drop (i + 1), okName (s.take i) && okName (s.drop (i + 1))))) else some (.inl ())) (fun _ => (.inl () : Unit ⊕ (Bs × Bs × Bool))) k l () = some (match p58 l with | some i => .inr (s.take (k + i), s.drop (k + i + 1), okName (s.take (k + i)) && okName (s.drop (k + i + 1))) | none => .inl ()) := fun l => by
    induction l with
    | nil => intro k; rfl
    | cons x r ih =>
      intro k
      unfold foldI p58
      by_cases hx : x.toNat = 58
      · simp [hx, onSum]
      · simp only [hx, if_false, Option.bind_some, onSum]
        rw [ih (k + 1)]
        cases p58 r with
        | none => rfl
        | some i => simp only [Option.map_some, show k + 1 + i = k + (i + 1) by omega]
  rw [key] at h
  have h : loopC _ (0 : Int) = _ := h
  rw [h, rname_eq s (by omega)]
  unfold nm
  cases p58 s with
  | none => rfl
  | some i => simp [onSum]

abbrev COLOR : Bs := [99, 111, 108, 111, 114]
/-- the words behind the first -/
def pw : Bool → Sty → List Bs → Option Sty
  | false, st, [] => some st
  | true, _, [] => none
  | true, st, w :: r => match colS w with
    | some n => if st.2.2.1.2.2.1 = -1 then pw false (st.1, st.2.1, (st.2.2.1.1, st.2.2.1.2.1, (n : Int), ()), ()) r else none
    | none => none
  | false, st, w :: r => if w = COLOR then pw true st r else match attrS st.2.2.1 w with
    | some c => pw false (st.1, st.2.1, c, ()) r
    | none => none
def zs : Sty := ([], [], (0, 0, 0, ()), ())
theorem plain_eq : style_plain = some (0, 0, -1, ()) := by kernel_rfl
theorem none_eq : folioref06_None = some (0, 0, -1, ()) := by kernel_rfl
end Go.Fn
