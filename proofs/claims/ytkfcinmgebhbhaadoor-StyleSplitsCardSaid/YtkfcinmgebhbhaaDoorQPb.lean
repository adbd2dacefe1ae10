/- Chapter 6, plainly: names, colours, attributes. -/
import Derived.Test.YtkfcinmgebhbhaaDoorQPa
import Derived.Test.YtkfcinmgebhbhaaDoorQFn2
import Derived.Test.YtkfcinmgebhbhaaDoorQPlain
namespace Go.Fn
open Go Go.Lf

abbrev Bs := List UInt8
def low (b : UInt8) : Bool := decide (97 ≤ b.toNat) && decide (b.toNat ≤ 122)
def okName (s : Bs) : Bool := decide (1 ≤ s.length) && decide (s.length ≤ 12) && s.all low
def lowStep (b : UInt8) : Option (Unit ⊕ (Unit ⊕ Bool)) := if low b then some (.inl ()) else some (.inr (.inr false))
theorem low_fold : ∀ s : Bs, foldE (fun x (_ : Unit) => lowStep x) (fun _ => (.inl () : Unit ⊕ Bool)) s () = some (if s.all low then .inl () else .inr false)
  | [] => rfl
  | b :: r => by
    unfold foldE
    have ih := low_fold r
    unfold lowStep
    cases hb : low b with
    | true => simp only [if_true, Option.bind_some, onSum, List.all_cons, hb, Bool.true_and]; exact ih
    | false => simp [onSum, List.all_cons, hb]
theorem low_loop (s : Bs) (hs : s.length < 9223372036854775807) (B : Int → Option (Int ⊕ (Unit ⊕ Bool)))
    (hB : ∀ z1, B z1 = (bif (decide (z1 < (((List.length s) : Nat) : Int))) then (((Go.Lf.idx s z1)).bind fun r2 =>
       bif (!(decide ((((UInt8.toNat r2) : Nat) : Int) < (97 : Int)))) then ((Go.Lf.idx s z1)).bind fun r3 =>
       some (decide ((122 : Int) < (((UInt8.toNat r3) : Nat) : Int)))
       else some true).bind fun r4 =>
     bif r4 then some (.inr (.inr false))
     else some (.inl (Go.IntKind.wrap .i64 (z1 + (1 : Int))))
     else some (.inr (.inl ())))) : loopC B 0 = some (if s.all low then .inl () else .inr false) := by
  have := range_loop0 (l := s) (B := B) lowStep (.inl ()) (fun i x hx => by
    have hlt : i < s.length := (List.getElem?_eq_some_iff.1 hx).1
    rw [hB, idx_nat, hx, wrapS (by omega)]
    unfold lowStep low
    have e0 : ((i : Int) < (s.length : Int)) := by omega
    by_cases h1 : (x.toNat : Int) < 97
    · have h3 : ¬ (97 ≤ x.toNat) := by omega
      simp [e0, hlt, h1, h3, onSum]
    · have h3 : 97 ≤ x.toNat := by omega
      by_cases h2 : (122 : Int) < x.toNat
      · have h4 : ¬ (x.toNat ≤ 122) := by omega
        simp [e0, hlt, h1, h2, h3, h4, onSum]
      · have h4 : x.toNat ≤ 122 := by omega
        simp [e0, hlt, h1, h2, h3, h4, onSum]) (by rw [hB]; simp) s.length 0 (by omega)
  rw [List.drop_zero, low_fold] at this
  exact this
theorem named_eq (s : Bs) (hs : s.length < 9223372036854775807) : style_named s = some (okName s) := by
  unfold style_named okName
  by_cases h1 : (s.length : Int) < 1
  · have : ¬ (1 ≤ s.length) := by omega
    simp [h1, this]
  · have h3 : 1 ≤ s.length := by omega
    by_cases h2 : (12 : Int) < s.length
    · have : ¬ (s.length ≤ 12) := by omega
      simp [h1, h2, this]
    · have h4 : s.length ≤ 12 := by omega
      rw [low_loop s hs _ (fun _ => rfl)]
      cases h5 : s.all low <;> simp [h1, h2, h3, h4, onSum]
theorem rname_eq (s : Bs) (hs : s.length < 9223372036854775807) : folioref06_Name s = some (okName s) := by
  unfold folioref06_Name okName
  rw [low_loop s hs _ (fun _ => rfl)]
  by_cases h1 : (1 : Int) ≤ s.length
  · have h3 : 1 ≤ s.length := by omega
    by_cases h2 : (s.length : Int) ≤ 12
    · have h4 : s.length ≤ 12 := by omega
      cases h5 : s.all low <;> simp [h1, h2, h3, h4, onSum]
    · have h4 : ¬ s.length ≤ 12 := by omega
      cases h5 : s.all low <;> simp [h1, h2, h3, h4, onSum]
  · have h3 : ¬ 1 ≤ s.length := by omega
    cases h5 : s.all low <;> simp [h1, h3, onSum]
end Go.Fn
