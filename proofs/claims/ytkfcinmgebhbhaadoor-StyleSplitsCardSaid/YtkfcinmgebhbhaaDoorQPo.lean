/- Chapter 6, plainly: StyleSplits. -/
import Derived.Test.YtkfcinmgebhbhaaDoorQPn
namespace Go.Fn
open Go Go.Lf

def BASE : List Sty := [([98], [], (1, 0, -1, ()), ()), ([105], [], (2, 0, -1, ()), ()), ([117], [], (4, 0, -1, ()), ()), ([115], [], (8, 0, -1, ()), ()), ([109], [], (16, 0, -1, ()), ()), ([104], [], (5, 0, -1, ()), ())]
theorem rbase_eq : folioref06_Base = some BASE := rfl
def okB (s : Sty) : Bool := Nat.ble s.1.length lim && Nat.ble s.2.1.length lim && decide (IntKind.i64.min ≤ s.2.2.1.1) && decide (s.2.2.1.1 ≤ IntKind.i64.max) && decide (IntKind.i64.min ≤ s.2.2.1.2.1) && decide (s.2.2.1.2.1 ≤ IntKind.i64.max)
theorem base_fine : ∀ s ∈ BASE, s.1.length ≤ lim ∧ s.2.1.length ≤ lim ∧ Fits s.2.2.1.1 ∧ Fits s.2.2.1.2.1 := by
  have h : BASE.all okB = true := by kernel_rfl
  intro s hs
  have := List.all_eq_true.1 h s hs
  unfold okB at this
  simp only [Bool.and_eq_true] at this
  obtain ⟨⟨⟨⟨⟨h1, h2⟩, h3⟩, h4⟩, h5⟩, h6⟩ := this
  exact ⟨Nat.le_of_ble_eq_true h1, Nat.le_of_ble_eq_true h2, ⟨of_decide_eq_true h3, of_decide_eq_true h4⟩, ⟨of_decide_eq_true h5, of_decide_eq_true h6⟩⟩
theorem fine_all {l : List Sty} (h : l.length * 56 ≤ lim) (ha : ∀ s ∈ l, s.1.length ≤ lim ∧ s.2.1.length ≤ lim ∧ Fits s.2.2.1.1 ∧ Fits s.2.2.1.2.1) : Fine (BASE ++ l) := by
  unfold lim at h
  refine ⟨by rw [List.length_append, show BASE.length = 6 from rfl]; omega, fun s hs => ?_⟩
  rcases List.mem_append.1 hs with hs | hs
  · exact base_fine s hs
  · exact ha s hs
theorem whole_eq (l : List Sty) (h : l.length * 56 ≤ lim) : foliolaw06_whole l = some (BASE ++ l) := by
  unfold lim at h
  unfold foliolaw06_whole
  rw [rbase_eq]
  simp only [Option.bind_some]
  rw [app_of (by rw [show BASE.length = 6 from rfl]; omega)]
  rfl
section
variable (l : List Sty) (hl : l.length < 9223372036854775807) (hw : ∀ i, i < l.length → ∃ r, style_whole l (i : Int) = some r)
include hl hw
theorem splits_loop (p : Int) (hc : style_Check l = some (p, 0)) (ns : List Bs) (hn : ns.length ≤ 15) (c8 : Bool) (k8 : Lok) (B : Int × List Bs × Lok × Lok → Option ((Int × List Bs × Lok × Lok) ⊕ ((List Bs × Lok × Lok) ⊕ Bool))) (hB : ∀ z9, B z9 = (bif (decide (z9.1 < (((List.length ns) : Nat) : Int))) then ((Go.Lf.idx ns z9.1)).bind fun r10 =>
     ((Go.Fn.style_Whole l r10)).bind fun r11 =>
     bif (decide ((r11.2 : Int) ≠ (0 : Int))) then some (.inr (.inr c8))
     else ((Go.Fn.style_Apply z9.2.2.1 r11.1)).bind fun r12 =>
     ((Go.Lf.idx ns z9.1)).bind fun r13 =>
     ((Go.Lf.idx ns z9.1)).bind fun r14 =>
     ((Go.Lf.app (16 : Nat) z9.2.1 (r13 :: (r14 :: ([] : List (List (UInt8))))))).bind fun r15 =>
     some (.inl ((Go.IntKind.wrap .i64 (z9.1 + (1 : Int))), (r15, (r12, z9.2.2.2))))
     else some (.inr (.inl (z9.2.1, (z9.2.2.2, z9.2.2.1)))))) : ∀ (m i : Nat) (out : List Bs) (k : Lok), i + m = ns.length → out.length ≤ 2 * i →
    loopC B ((i : Int), out, k, k8) = some (match nst l (ns.drop i) k with | some k' => .inl (out ++ dbl (ns.drop i), k8, k') | none => .inr c8)
  | 0, i, out, k, h, ho => by
    have : i = ns.length := by omega
    subst this
    rw [loopC_step, hB, List.drop_length]
    simp only [Int.lt_irrefl, decide_false, cond_false, Option.bind_some]
    simp [nst, dbl]
  | m + 1, i, out, k, h, ho => by
    have hi : i < ns.length := by omega
    have hg : idx ns (i : Int) = some ns[i] := by rw [idx_nat, List.getElem?_eq_getElem hi]
    have e1 : (i : Int) < ((ns.length : Nat) : Int) := by omega
    rw [loopC_step, hB, List.drop_eq_getElem_cons hi, nst_cons]
    unfold style_Whole
    simp only [e1, decide_true, cond_true, hg, Option.bind_some, hc, ne_eq, not_true_eq_false, decide_false, cond_false, sfind_eq l _ hl]
    cases hf : fnd l ns[i] with
    | none => rfl
    | some j =>
      obtain ⟨c, hcw⟩ := hw j (fnd_lt l _ j hf)
      simp only [Bool.not_true, cond_false, hcw, Option.bind_some, apply_eq, not_true_eq_false, decide_false]
      rw [wrapS (by omega), app_of (by simp only [List.length_cons, List.length_nil]; omega)]
      simp only [Option.bind_some]
      rw [splits_loop p hc ns hn c8 k8 B hB m (i + 1) _ _ (by omega) (by simp only [List.length_append, List.length_cons, List.length_nil]; omega)]
      cases nst l (ns.drop (i + 1)) (applyS k c) with
      | none => rfl
      | some k' =>
        show _ = some (Sum.inl (out ++ (ns[i] :: ns[i] :: dbl (ns.drop (i + 1))), k8, k'))
        simp
end
theorem splits_law (l : List Sty) (a b : List Bs) (h : l.length * 56 ≤ lim) (ha : ∀ s ∈ l, s.1.length ≤ lim ∧ s.2.1.length ≤ lim ∧ Fits s.2.2.1.1 ∧ Fits s.2.2.1.2.1) : foliolaw06_StyleSplits l a b = some true := by
  have hF := fine_all h ha
  unfold foliolaw06_StyleSplits
  rw [whole_eq l h, awake]
  revert hF
  generalize BASE ++ l = L
  intro hF
  have hl : L.length < 9223372036854775807 := by have := hF.1; omega
  obtain ⟨r3, e3⟩ := rcheck_tot L hF
  simp only [Option.bind_some, Bool.not_true, cond_false, e3]
  by_cases g1 : r3.2 = 0
  · by_cases g2 : (15 : Int) < ((a.length : Nat) : Int)
    · simp [g1, g2]
    · by_cases g3 : (15 : Int) < ((b.length : Nat) : Int)
      · simp [g1, g2, g3]
      · simp only [g1, g2, g3, ne_eq, not_true_eq_false, decide_false, Bool.not_false, cond_true, cond_false, Option.bind_some]
        rw [app_of (l := []) (by simp only [List.length_nil]; omega)]
        simp only [Option.bind_some, List.nil_append]
        rw [app_of (by omega)]
        simp only [Option.bind_some]
        obtain ⟨p, c, hc, htot⟩ := scheck_eq L hF
        by_cases hc0 : c = 0
        · subst hc0
          have hw := htot rfl
          obtain ⟨r5, e5, h5⟩ := nest_eq L hl hw p hc a (by omega)
          obtain ⟨r8, e8, h8⟩ := nest_eq L hl hw p hc (a ++ b) (by simp only [List.length_append]; omega)
          rw [e5, e8]
          simp only [Option.bind_some]
          rw [nst_app] at h8
          cases hk : nst L a (0, 7, ()) with
          | none =>
            rw [hk] at h5 h8
            have h5 : r5.2.2 = 66 := h5
            have h8 : r8.2.2 = 66 := h8
            simp [h5, h8]
          | some k1 =>
            rw [hk] at h5 h8
            have h5 : r5 = (k1, 0, 0) := h5
            have h8 : (match nst L b k1 with | some k => r8 = (k, 0, 0) | none => r8.2.2 = 66) := h8
            subst h5
            simp only [ne_eq, not_true_eq_false, decide_false, cond_false]
            have hs := splits_loop L hl hw p hc b (by omega) (decide (r8.2.2 = 66)) r8.1 _ (fun _ => rfl) b.length 0 [] k1 (by omega) (by simp)
            have hs : loopC _ ((0 : Int), ([] : List Bs), k1, r8.1) = _ := hs
            simp only [ne_eq] at hs
            rw [hs, List.drop_zero]
            simp only [Option.bind_some, List.nil_append]
            cases hk2 : nst L b k1 with
            | none =>
              rw [hk2] at h8
              have h8 : r8.2.2 = 66 := h8
              simp [onSum, h8]
            | some k2 =>
              rw [hk2] at h8
              have h8 : r8 = (k2, 0, 0) := h8
              subst h8
              simp only [onSum]
              have hd := dbl_len b
              rw [wrap64 (by omega) (by omega)]
              by_cases g4 : (32 : Int) < ((a.length : Nat) : Int) + (((dbl b).length : Nat) : Int)
              · simp [g4, look_eq]
              · simp only [g4, decide_false, cond_false, Option.bind_some]
                rw [app_of (by omega)]
                simp only [Option.bind_some]
                obtain ⟨r22, e22, h22⟩ := nest_eq L hl hw p hc (a ++ dbl b) (by simp only [List.length_append]; omega)
                rw [nst_app, hk] at h22
                have h22 : (match nst L (dbl b) k1 with | some k => r22 = (k, 0, 0) | none => r22.2.2 = 66) := h22
                rw [nst_dbl, hk2] at h22
                have h22 : r22 = (k2, 0, 0) := h22
                subst h22
                rw [e22]
                simp [look_eq]
        · unfold style_Nest
          simp [hc, hc0]
  · simp [g1]
end Go.Fn
