/- Chapter 6, plainly: colours, attributes. -/
import Derived.Test.YtkfcinmgebhbhaaDoorQPb
import Derived.KernelRfl
namespace Go.Fn
open Go Go.Lf

def isCol (w : Bs) (n : Nat) : Bool := decide (Lib.itoa (n : Int) = w)
def colS (w : Bs) : Option Nat := (List.range 16).find? (isCol w)
theorem itoa_back : ∀ n : Nat, n < 16 → Lib.atoiAll (Lib.itoa (n : Int)) = .ok (n : Int) := by
  have h : ((List.range 16).all fun n => match Lib.atoiAll (Lib.itoa (n : Int)) with | .ok v => decide (v = (n : Int)) | _ => false) = true := by kernel_rfl
  intro n hn
  have h1 := List.all_eq_true.1 h n (List.mem_range.2 hn)
  split at h1
  · rename_i v hv
    rw [hv, of_decide_eq_true h1]
  · cases h1
theorem colS_some {w : Bs} {n : Nat} (h : colS w = some n) : n < 16 ∧ Lib.itoa (n : Int) = w :=
  ⟨List.mem_range.1 (List.mem_of_find?_eq_some h), of_decide_eq_true (show decide (Lib.itoa (n : Int) = w) = true from List.find?_some (p := isCol w) h)⟩
theorem colS_of {w : Bs} {n : Nat} (hn : n < 16) (h : Lib.itoa (n : Int) = w) : colS w = some n := by
  cases hc : colS w with
  | none =>
    have := List.find?_eq_none.1 hc n (List.mem_range.2 hn)
    exact absurd (decide_eq_true h) this
  | some m =>
    obtain ⟨h1, h2⟩ := colS_some hc
    have e1 := itoa_back n hn
    have e2 := itoa_back m h1
    rw [h] at e1
    rw [h2, e1] at e2
    injection e2 with e2
    congr 1
    omega
theorem rcolor_eq (w : Bs) : folioref06_color w = some (match colS w with | some n => ((n : Int), true) | none => (0, false)) := by
  unfold folioref06_color
  have h := range_loop0 (l := List.range 16) (κ := Unit ⊕ (Int × Bool)) (B := fun z1 => bif (decide (z1 ≤ (15 : Int))) then ((Go.Fn.strconv_Itoa z1)).bind fun r2 =>
     bif (decide ((r2 : List (UInt8)) = w)) then some (.inr (.inr (z1, true)))
     else some (.inl (Go.IntKind.wrap .i64 (z1 + (1 : Int))))
     else some (.inr (.inl ()))) (fun n => if isCol w n then some (.inr (.inr ((n : Int), true))) else some (.inl ())) (.inl ()) (fun i x hx => by
      have hlt : i < 16 := by simpa using (List.getElem?_eq_some_iff.1 hx).1
      have hxi : x = i := by
        have := (List.getElem?_eq_some_iff.1 hx).2
        simpa using this.symm
      subst hxi
      have e1 : (x : Int) ≤ 15 := by omega
      have e2 : -9223372036854775808 ≤ (x : Int) ∧ (x : Int) ≤ 9223372036854775807 := by omega
      unfold isCol strconv_Itoa
      by_cases hw : Lib.itoa (x : Int) = w
      · simp [e1, e2, hw, onSum]
      · simp [e1, e2, hw, onSum]
        rw [wrapS (by omega)]; rfl) (by simp) 16 0 (by simp)
  rw [List.drop_zero] at h
  have key : ∀ l : List Nat, foldE (fun n (_ : Unit) => if isCol w n then some (.inr (.inr ((n : Int), true))) else some (.inl ())) (fun _ => (.inl () : Unit ⊕ (Int × Bool))) l () = some (match l.find? (isCol w) with | some n => .inr ((n : Int), true) | none => .inl ()) := fun l => by
    induction l with
    | nil => rfl
    | cons x r ih =>
      unfold foldE
      cases hx : isCol w x with
      | true => simp [onSum, List.find?_cons, hx]
      | false =>
        simp only [hx, Bool.false_eq_true, if_false, Option.bind_some, onSum, List.find?_cons]
        exact ih
  rw [key] at h
  have h : loopC _ (0 : Int) = _ := h
  rw [h]
  unfold colS
  cases (List.range 16).find? (isCol w) <;> rfl
theorem scolor_nil : style_color [] = some (0, false) := by unfold style_color; simp
theorem scolor_eq (w : Bs) (r : List Bs) (hw : w.length ≤ 140737488355328) : ∃ n, style_color (w :: r) = some (n, (colS w).isSome) ∧ ∀ m, colS w = some m → n = (m : Int) := by
  unfold style_color strconv_Atoi
  have e0 : (((w :: r).length : Int) = 0) = False := by simp; omega
  have hi : idx (w :: r) 0 = some w := rfl
  simp only [e0, decide_false, cond_false, hi, Option.bind_some, if_pos hw]
  cases h : Lib.atoiAll w with
  | ok v =>
    refine ⟨v, ?_, fun m hm => ?_⟩
    · simp only [Option.isNone_none, cond_true]
      by_cases h1 : 0 ≤ v
      · by_cases h2 : v ≤ 15
        · have e2 : -9223372036854775808 ≤ v ∧ v ≤ 9223372036854775807 := by omega
          simp only [h1, h2, decide_true, cond_true, strconv_Itoa, if_pos e2, Option.bind_some]
          congr 2
          by_cases h3 : Lib.itoa v = w
          · have : colS w = some v.toNat := colS_of (by omega) (by rw [Int.toNat_of_nonneg h1]; exact h3)
            simp [h3, this]
          · cases hc : colS w with
            | none => simp [h3]
            | some m =>
              obtain ⟨g1, g2⟩ := colS_some hc
              have := itoa_back m g1
              rw [g2, h] at this
              injection this with this
              rw [← this] at g2
              exact absurd g2 h3
        · cases hc : colS w with
          | none => simp [h1, h2]
          | some m =>
            obtain ⟨g1, g2⟩ := colS_some hc
            have := itoa_back m g1
            rw [g2, h] at this
            injection this with this
            omega
      · cases hc : colS w with
        | none => simp [h1]
        | some m =>
          obtain ⟨g1, g2⟩ := colS_some hc
          have := itoa_back m g1
          rw [g2, h] at this
          injection this with this
          omega
    · obtain ⟨g1, g2⟩ := colS_some hm
      have := itoa_back m g1
      rw [g2, h] at this
      injection this
  | range =>
    have hn : colS w = none := by
      cases hc : colS w with
      | none => rfl
      | some m =>
        obtain ⟨g1, g2⟩ := colS_some hc
        have := itoa_back m g1
        rw [g2, h] at this
        cases this
    exact ⟨Lib.atoiSat w, by simp [hn], fun m hm => by rw [hn] at hm; cases hm⟩
  | _ =>
    have hn : colS w = none := by
      cases hc : colS w with
      | none => rfl
      | some m =>
        obtain ⟨g1, g2⟩ := colS_some hc
        have := itoa_back m g1
        rw [g2, h] at this
        cases this
    exact ⟨0, by simp [hn], fun m hm => by rw [hn] at hm; cases hm⟩
end Go.Fn
