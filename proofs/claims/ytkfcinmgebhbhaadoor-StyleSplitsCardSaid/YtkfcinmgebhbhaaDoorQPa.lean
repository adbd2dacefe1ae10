/- Chapter 6, plainly: changes. -/
import Derived.Test.YtkfcinmgebhbhaaDoorQFd
import Derived.Test.YtkfcinmgebhbhaaDoorQCard
namespace Go.Fn
open Go Go.Lf

/-- a word as a number -/
def num (x : BitVec 64) : Int := IntKind.i64.wrap (x.toNat : Int)
theorem num_inj (x : BitVec 64) : BitVec.ofInt 64 (num x) = x := by
  apply BitVec.eq_of_toNat_eq
  have h := x.isLt
  simp only [num, IntKind.wrap, BitVec.toNat_ofInt]
  simp [IntKind.bits, IntKind.signed]
  omega
theorem num_of {n : Int} (h : IntKind.i64.min ≤ n ∧ n ≤ IntKind.i64.max) : num (BitVec.ofInt 64 n) = n := by
  have e1 : IntKind.i64.min = -9223372036854775808 := by decide
  have e2 : IntKind.i64.max = 9223372036854775807 := by decide
  simp only [num, IntKind.wrap, BitVec.toNat_ofInt]
  simp [IntKind.bits, IntKind.signed]
  omega
theorem bits_or (a b : Int) : Go.Lf.bits .or .i64 a b = num (BitVec.ofInt 64 a ||| BitVec.ofInt 64 b) := rfl
theorem bits_and (a b : Int) : Go.Lf.bits .and .i64 a b = num (BitVec.ofInt 64 a &&& BitVec.ofInt 64 b) := rfl
theorem bits_andNot (a b : Int) : Go.Lf.bits .andNot .i64 a b = num (BitVec.ofInt 64 a &&& ~~~ BitVec.ofInt 64 b) := rfl

abbrev Chg := Int × Int × Int × Unit
abbrev Lok := Int × Int × Unit
def thenS (a b : Chg) : Chg := (num ((BitVec.ofInt 64 a.1 &&& ~~~ BitVec.ofInt 64 b.2.1) ||| BitVec.ofInt 64 b.1), num ((BitVec.ofInt 64 a.2.1 &&& ~~~ BitVec.ofInt 64 b.1) ||| BitVec.ofInt 64 b.2.1), if b.2.2.1 = -1 then a.2.2.1 else b.2.2.1, ())
def applyS (l : Lok) (c : Chg) : Lok := (num ((BitVec.ofInt 64 l.1 ||| BitVec.ofInt 64 c.1) &&& ~~~ BitVec.ofInt 64 c.2.1), if c.2.2.1 = -1 then l.2.1 else c.2.2.1, ())
theorem then_eq (a b : Chg) : style_Then a b = some (thenS a b) := by
  unfold style_Then thenS
  by_cases h : b.2.2.1 = -1 <;> simp [h, bits_or, bits_andNot, num_inj]
theorem rthen_eq (a b : Chg) : folioref06_Then a b = some (thenS a b) := by
  unfold folioref06_Then thenS
  by_cases h : b.2.2.1 = -1 <;> simp [h, bits_or, bits_andNot, num_inj]
theorem apply_eq (a : Lok) (b : Chg) : style_Apply a b = some (applyS a b) := by
  unfold style_Apply applyS
  by_cases h : b.2.2.1 = -1 <;> simp [h, bits_or, bits_andNot, num_inj]
theorem rapply_eq (a : Lok) (b : Chg) : folioref06_Apply a b = some (applyS a b) := by
  unfold folioref06_Apply applyS
  by_cases h : b.2.2.1 = -1 <;> simp [h, bits_or, bits_andNot, num_inj]
theorem same_eq (a b : Chg) : foliolaw06_same a b = some (decide (a = b)) := by
  obtain ⟨a1, a2, a3, ⟨⟩⟩ := a
  obtain ⟨b1, b2, b3, ⟨⟩⟩ := b
  unfold foliolaw06_same
  by_cases h1 : a1 = b1 <;> by_cases h2 : a2 = b2 <;> simp [h1, h2]
theorem look_eq (a b : Lok) : foliolaw06_look a b = some (decide (a = b)) := by
  obtain ⟨a1, a2, ⟨⟩⟩ := a
  obtain ⟨b1, b2, ⟨⟩⟩ := b
  unfold foliolaw06_look
  by_cases h1 : a1 = b1 <;> simp [h1]
theorem changes_law (a b : Chg) (l : Lok) : foliolaw06_StyleChanges a b l = some true := by
  unfold foliolaw06_StyleChanges
  simp [then_eq, rthen_eq, apply_eq, rapply_eq, same_eq, look_eq, awake]

def Fits (n : Int) : Prop := IntKind.i64.min ≤ n ∧ n ≤ IntKind.i64.max
theorem bv_assoc (a b c d e f : BitVec 64) (h : (d &&& c) = 0#64) : ((a &&& ~~~d ||| c) &&& ~~~f ||| e) = (a &&& ~~~(d &&& ~~~e ||| f) ||| (c &&& ~~~f ||| e)) := by
  apply BitVec.eq_of_getLsbD_eq
  intro i hi
  have hi2 := congrArg (fun x : BitVec 64 => x.getLsbD i) h
  simp only [BitVec.getLsbD_or, BitVec.getLsbD_and, BitVec.getLsbD_not, hi, decide_true, Bool.true_and, BitVec.getLsbD_zero] at hi2 ⊢
  generalize a.getLsbD i = a at *
  generalize c.getLsbD i = c at *
  generalize d.getLsbD i = d at *
  generalize e.getLsbD i = e at *
  generalize f.getLsbD i = f at *
  revert hi2
  cases a <;> cases c <;> cases d <;> cases e <;> cases f <;> decide
theorem bv_apply (l a b c d : BitVec 64) : (((l ||| a) &&& ~~~b ||| c) &&& ~~~d) = ((l ||| (a &&& ~~~d ||| c)) &&& ~~~(b &&& ~~~c ||| d)) := by
  apply BitVec.eq_of_getLsbD_eq
  intro i hi
  simp only [BitVec.getLsbD_or, BitVec.getLsbD_and, BitVec.getLsbD_not, hi, decide_true, Bool.true_and]
  generalize l.getLsbD i = l
  generalize a.getLsbD i = a
  generalize b.getLsbD i = b
  generalize c.getLsbD i = c
  generalize d.getLsbD i = d
  cases l <;> cases a <;> cases b <;> cases c <;> cases d <;> decide
theorem and_ones (x : BitVec 64) : x &&& 18446744073709551615#64 = x := by
  rw [show 18446744073709551615#64 = BitVec.allOnes 64 by decide]
  exact BitVec.and_allOnes
theorem num_zero (x : BitVec 64) : num x = 0 ↔ x = 0#64 := by
  constructor
  · intro h
    have := num_inj x
    rw [h] at this
    rw [← this]; decide
  · rintro rfl; decide
theorem assoc_law (a b c : Chg) (l : Lok) (ha : Fits a.1 ∧ Fits a.2.1) (hl : Fits l.1) : foliolaw06_StyleAssociates a b c l = some true := by
  have hz : BitVec.ofInt 64 0 = 0#64 := by decide
  have e1 : applyS (applyS l a) b = applyS l (thenS a b) := by
    unfold applyS thenS
    simp only [num_inj, bv_apply]
    by_cases h1 : a.2.2.1 = -1 <;> by_cases h2 : b.2.2.1 = -1 <;> simp [h1, h2]
  have e3 : thenS a (0, 0, -1, ()) = a := by
    obtain ⟨a1, a2, a3, ⟨⟩⟩ := a
    unfold thenS
    simp [and_ones, num_of ha.1, num_of ha.2]
  have e4 : thenS (0, 0, -1, ()) a = a := by
    obtain ⟨a1, a2, a3, ⟨⟩⟩ := a
    unfold thenS
    by_cases h1 : a3 = -1 <;> simp [num_of ha.1, num_of ha.2, h1]
  have e5 : applyS l (0, 0, -1, ()) = l := by
    obtain ⟨l1, l2, ⟨⟩⟩ := l
    unfold applyS
    have h2 : ~~~ (0#64) = BitVec.allOnes 64 := by decide
    simp [and_ones, num_of hl]
  have hap : ∀ x : Chg, foliolaw06_apart x = some (decide ((BitVec.ofInt 64 x.1 &&& BitVec.ofInt 64 x.2.1) = 0#64)) := fun x => by
    unfold foliolaw06_apart
    rw [bits_and]
    congr 1
    exact decide_eq_decide.2 (num_zero _)
  unfold foliolaw06_StyleAssociates
  simp only [awake, hap]
  by_cases ha0 : (BitVec.ofInt 64 a.1 &&& BitVec.ofInt 64 a.2.1) = 0#64 <;> by_cases hb0 : (BitVec.ofInt 64 b.1 &&& BitVec.ofInt 64 b.2.1) = 0#64 <;> by_cases hc0 : (BitVec.ofInt 64 c.1 &&& BitVec.ofInt 64 c.2.1) = 0#64 <;> simp [ha0, hb0, hc0]
  have e2 : thenS (thenS a b) c = thenS a (thenS b c) := by
    unfold thenS
    simp only [num_inj]
    rw [bv_assoc (BitVec.ofInt 64 a.1) (BitVec.ofInt 64 a.2.1) (BitVec.ofInt 64 b.1) (BitVec.ofInt 64 b.2.1) (BitVec.ofInt 64 c.1) (BitVec.ofInt 64 c.2.1) (by rw [BitVec.and_comm]; exact hb0), bv_assoc (BitVec.ofInt 64 a.2.1) (BitVec.ofInt 64 a.1) (BitVec.ofInt 64 b.2.1) (BitVec.ofInt 64 b.1) (BitVec.ofInt 64 c.2.1) (BitVec.ofInt 64 c.1) hb0]
    by_cases h1 : b.2.2.1 = -1 <;> by_cases h2 : c.2.2.1 = -1 <;> simp [h1, h2]
  simp [then_eq, apply_eq, same_eq, look_eq, e1, e2, e3, e4, e5]
end Go.Fn
