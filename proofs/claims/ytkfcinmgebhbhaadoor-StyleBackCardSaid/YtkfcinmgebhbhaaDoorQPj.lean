/- Chapter 6, plainly: StyleTexts. -/
import Derived.Test.YtkfcinmgebhbhaaDoorQPi
namespace Go.Fn
open Go Go.Lf

theorem bits7 (bit : Nat → Bool) (sg : Bs) (hs : sg.length ≤ 2) : (bitsW bit sg 0 W7).length ≤ 63 := by
  have := bitsW_len bit sg W7 0 W7_len
  have e : W7.length = 7 := rfl
  rw [e] at this
  omega
theorem rwrite_eq (st : Sty) (h1 : st.1.length ≤ lim) (h2 : st.2.1.length ≤ lim) (h3 : Fits st.2.2.1.1) (h4 : Fits st.2.2.1.2.1) : folioref06_Write st = some (writeS st) := by
  obtain ⟨nm, bs, ⟨on, off, col, ⟨⟩⟩, ⟨⟩⟩ := st
  unfold lim at h1 h2
  unfold folioref06_Write writeS
  dsimp only at *
  rw [rname_eq nm (by omega), rname_eq bs (by omega), own_eq]
  cases hk : okName nm with
  | false => rfl
  | true =>
    by_cases hc : chgS (on, off, col, ()) = 0
    · obtain ⟨c1, c2⟩ : -1 ≤ col ∧ col ≤ 15 := chgS_zero hc
      have l1 := okName_len hk
      have l3 := bits7 (bitN on) [32, 43] (by simp)
      have l4 := bits7 (bitN off) [32, 45] (by simp)
      have fin : ∀ n0 : Bs, n0.length ≤ 25 → (((Go.Fn.folioref06_bits ((43 : UInt8) :: ([] : List (UInt8))) on)).bind fun r8 =>
 ((Go.Lf.cat n0 r8)).bind fun r9 =>
 ((Go.Fn.folioref06_bits ((45 : UInt8) :: ([] : List (UInt8))) off)).bind fun r10 =>
 ((Go.Lf.cat r9 r10)).bind fun r11 =>
 (bif (decide ((col : Int) ≠ (-(1 : Int)))) then ((Go.Lf.cat r11 ((32 : UInt8) :: ((99 : UInt8) :: ((111 : UInt8) :: ((108 : UInt8) :: ((111 : UInt8) :: ((114 : UInt8) :: ((32 : UInt8) :: ([] : List (UInt8))))))))))).bind fun r12 =>
   ((Go.Fn.strconv_Itoa col)).bind fun r13 =>
   ((Go.Lf.cat r12 r13)).bind fun r14 =>
   some r14
   else some r11).bind fun r15 =>
 some (r15, (0 : Int))) = some (n0 ++ bitsW (bitN on) [32, 43] 0 W7 ++ bitsW (bitN off) [32, 45] 0 W7 ++ (if col = -1 then [] else SPCOLOR ++ Lib.itoa col), 0) := fun n0 hn0 => by
        rw [rbits_eq [43] on h3 (by simp), rbits_eq [45] off h4 (by simp)]
        simp only [Option.bind_some]
        rw [cat_of (by omega)]
        simp only [Option.bind_some]
        rw [cat_of (by simp only [List.length_append]; omega)]
        simp only [Option.bind_some]
        by_cases hm : col = -1
        · simp [hm]
        · obtain ⟨i1, i2⟩ : strconv_Itoa col = some (Lib.itoa col) ∧ (Lib.itoa col).length ≤ 2 := itoaC c1 c2 hm
          rw [cat_of (by simp only [List.length_append, List.length_cons, List.length_nil]; omega), i1]
          simp only [ne_eq, hm, not_false_eq_true, decide_true, cond_true, Option.bind_some]
          rw [cat_of (by simp only [List.length_append, List.length_cons, List.length_nil]; omega)]
          simp [hm]
      simp only [hc, ne_eq, not_true_eq_false, decide_false, cond_false, Option.bind_some, Bool.not_true, if_false, Bool.true_eq_false]
      by_cases hb : bs = []
      · subst hb
        have := fin nm (by omega)
        simpa using this
      · cases hk2 : okName bs with
        | false => simp [hb]
        | true =>
          have l2 := okName_len hk2
          have := fin (nm ++ 58 :: bs) (by simp only [List.length_append, List.length_cons]; omega)
          have e1 : cat nm [58] = some (nm ++ [58]) := cat_of (by simp only [List.length_cons, List.length_nil]; omega)
          have e2 : cat (nm ++ [58]) bs = some (nm ++ 58 :: bs) := by
            rw [cat_of (by simp only [List.length_append, List.length_cons, List.length_nil]; omega)]
            simp
          simp only [hb, not_false_eq_true, decide_true, cond_true, Option.bind_some, Bool.not_true, cond_false, e1, e2, if_false, and_false, Bool.true_eq_false]
          exact this
    · simp [hc]
noncomputable def iB (r9 : Bs) (r10 : Int) (z12 : Int × Bs × Sty) : Option ((Int × Bs × Sty) ⊕ (Bs × Sty)) :=
         bif (decide (z12.1 < (((List.length W7) : Nat) : Int))) then (((Go.Lf.idx W7 z12.1)).bind fun r13 =>
           ((Go.Lf.nn z12.1 (Int.fdiv r10 ((2 : Int) ^ (Min.min (Int.toNat z12.1) (64 : Nat)))))).bind fun r14 =>
           bif (decide (((Go.Lf.bits .and .i64 r14 (1 : Int)) : Int) = (1 : Int))) then ((Go.Lf.cat r9 r13)).bind fun r15 =>
           ((Go.Lf.cat z12.2.1 r15)).bind fun r16 =>
           some (r16, z12.2.2)
           else some (z12.2.1, z12.2.2)).bind fun r17 =>
         some (.inl ((Go.IntKind.wrap .i64 (z12.1 + (1 : Int))), (r17.1, r17.2)))
         else some (.inr (z12.2.1, z12.2.2))
theorem iB_eq (sg : Bs) (n : Int) (hn : Fits n) (hs : sg.length ≤ 2) (st : Sty) (b : Bs) (hb : b.length ≤ 1000) : loopC (iB sg n) ((0 : Int), b, st) = some (b ++ bitsW (bitN n) sg 0 W7, st) := by
  have h := word_loop (fun i b => (i, b, st)) (fun b => (b, st)) (iB sg n) (bitN n) sg (fun i x b hx hb => by
      have hlt : i < 7 := (List.getElem?_eq_some_iff.1 hx).1
      have hxl := W7_len x (List.mem_of_getElem? hx)
      have e1 : (i : Int) < ((W7.length : Nat) : Int) := by show (i : Int) < 7; omega
      unfold iB
      simp only [e1, decide_true, cond_true, nn_at, Option.bind_some, bitN_at hn hlt, idx_nat, hx]
      rw [wrapS (by omega)]
      cases bitN n i with
      | false => rfl
      | true =>
        rw [cat_of (by omega)]
        simp only [cond_true, Option.bind_some]
        rw [cat_of (by simp only [List.length_append]; omega)]
        simp) (fun b => by unfold iB; simp; rfl) 7 0 b rfl (by omega)
  exact h
theorem swrite_eq (st : Sty) (h1 : st.1.length ≤ lim) (h2 : st.2.1.length ≤ lim) (h3 : Fits st.2.2.1.1) (h4 : Fits st.2.2.1.2.1) : style_Write st = some (writeS st) := by
  obtain ⟨nm, bs, ⟨on, off, col, ⟨⟩⟩, ⟨⟩⟩ := st
  unfold lim at h1 h2
  unfold style_Write writeS
  dsimp only at *
  rw [named_eq nm (by omega), named_eq bs (by omega), change_eq _ ⟨h3, h4⟩]
  cases hk : okName nm with
  | false => rfl
  | true =>
    by_cases hc : chgS (on, off, col, ()) = 0
    · obtain ⟨c1, c2⟩ : -1 ≤ col ∧ col ≤ 15 := chgS_zero hc
      have l1 := okName_len hk
      have l3 := bits7 (bitN on) [32, 43] (by simp)
      have l4 := bits7 (bitN off) [32, 45] (by simp)
      have fin : ∀ n0 : Bs, n0.length ≤ 25 → ((Go.Lf.loopC (σ := Bs × Int × Sty) (κ := Bs × Sty) (fun z8 =>
     bif (decide (z8.2.1 < (2 : Int))) then ((Go.Lf.idx (((32 : UInt8) :: ((43 : UInt8) :: ([] : List (UInt8)))) :: (((32 : UInt8) :: ((45 : UInt8) :: ([] : List (UInt8)))) :: ([] : List (List (UInt8))))) z8.2.1)).bind fun r9 =>
     ((Go.Lf.idx (z8.2.2.2.2.1.1 :: (z8.2.2.2.2.1.2.1 :: ([] : List (Int)))) z8.2.1)).bind fun r10 =>
     (Go.Fn.style_words).bind fun r11 =>
     (Go.Lf.loopC (σ := Int × Bs × Sty) (κ := Bs × Sty) (fun z12 =>
         bif (decide (z12.1 < (((List.length r11) : Nat) : Int))) then (((Go.Lf.idx r11 z12.1)).bind fun r13 =>
           ((Go.Lf.nn z12.1 (Int.fdiv r10 ((2 : Int) ^ (Min.min (Int.toNat z12.1) (64 : Nat)))))).bind fun r14 =>
           bif (decide (((Go.Lf.bits .and .i64 r14 (1 : Int)) : Int) = (1 : Int))) then ((Go.Lf.cat r9 r13)).bind fun r15 =>
           ((Go.Lf.cat z12.2.1 r15)).bind fun r16 =>
           some (r16, z12.2.2)
           else some (z12.2.1, z12.2.2)).bind fun r17 =>
         some (.inl ((Go.IntKind.wrap .i64 (z12.1 + (1 : Int))), (r17.1, r17.2)))
         else some (.inr (z12.2.1, z12.2.2))) ((0 : Int), (z8.1, z8.2.2)) : Option (Bs × Sty)).bind fun r18 =>
     some (.inl (r18.1, ((Go.IntKind.wrap .i64 (z8.2.1 + (1 : Int))), r18.2)))
     else some (.inr (z8.1, z8.2.2))) (n0, ((0 : Int), (nm, bs, (on, off, col, ()), ()))) : Option (Bs × Sty)).bind fun r19 =>
 (bif (decide ((r19.2.2.2.1.2.2.1 : Int) ≠ (-(1 : Int)))) then ((Go.Fn.strconv_Itoa r19.2.2.2.1.2.2.1)).bind fun r20 =>
   ((Go.Lf.cat ((32 : UInt8) :: ((99 : UInt8) :: ((111 : UInt8) :: ((108 : UInt8) :: ((111 : UInt8) :: ((114 : UInt8) :: ((32 : UInt8) :: ([] : List (UInt8))))))))) r20)).bind fun r21 =>
   ((Go.Lf.cat r19.1 r21)).bind fun r22 =>
   some r22
   else some r19.1).bind fun r23 =>
 some (r23, (0 : Int))) = some (n0 ++ bitsW (bitN on) [32, 43] 0 W7 ++ bitsW (bitN off) [32, 45] 0 W7 ++ (if col = -1 then [] else SPCOLOR ++ Lib.itoa col), 0) := fun n0 hn0 => by
        have w0 : IntKind.wrap .i64 ((0 : Int) + 1) = 1 := by decide
        have w1 : IntKind.wrap .i64 ((1 : Int) + 1) = 2 := by decide
        have d0 : decide ((0 : Int) < 2) = true := by decide
        have d1 : decide ((1 : Int) < 2) = true := by decide
        have d2 : decide ((2 : Int) < 2) = false := by decide
        have x0 : idx [([32, 43] : Bs), [32, 45]] 0 = some [32, 43] := rfl
        have x1 : idx [([32, 43] : Bs), [32, 45]] 1 = some [32, 45] := rfl
        have y0 : idx [on, off] 0 = some on := rfl
        have y1 : idx [on, off] 1 = some off := rfl
        have L0 := iB_eq [32, 43] on h3 (by simp) (nm, bs, (on, off, col, ()), ()) n0 (by omega)
        have L1 := iB_eq [32, 45] off h4 (by simp) (nm, bs, (on, off, col, ()), ()) (n0 ++ bitsW (bitN on) [32, 43] 0 W7) (by simp only [List.length_append]; omega)
        unfold iB at L0 L1
        rw [loopC_step]
        simp only [d0, cond_true, x0, y0, Option.bind_some, words_eq, L0, w0]
        rw [loopC_step]
        simp only [d1, cond_true, x1, y1, Option.bind_some, words_eq, L1, w1]
        rw [loopC_step]
        simp only [d2, cond_false, Option.bind_some]
        by_cases hm : col = -1
        · simp [hm]
        · obtain ⟨i1, i2⟩ : strconv_Itoa col = some (Lib.itoa col) ∧ (Lib.itoa col).length ≤ 2 := itoaC c1 c2 hm
          simp only [ne_eq, hm, not_false_eq_true, decide_true, cond_true, i1, Option.bind_some]
          rw [cat_of (by simp only [List.length_cons, List.length_nil]; omega)]
          simp only [Option.bind_some]
          rw [cat_of (by simp only [List.length_append, List.length_cons, List.length_nil]; omega)]
          simp [hm]
      simp only [hc, ne_eq, not_true_eq_false, decide_false, cond_false, Option.bind_some, Bool.not_true, if_false, Bool.true_eq_false]
      by_cases hb : bs = []
      · subst hb
        have := fin nm (by omega)
        simp only [not_true_eq_false, decide_false, cond_false, Option.bind_some, false_and, if_false, if_true, List.append_nil]
        exact this
      · cases hk2 : okName bs with
        | false => simp [hb]
        | true =>
          have l2 := okName_len hk2
          have := fin (nm ++ 58 :: bs) (by simp only [List.length_append, List.length_cons]; omega)
          have e1 : cat [58] bs = some (58 :: bs) := cat_of (by simp only [List.length_cons, List.length_nil]; omega)
          have e2 : cat nm (58 :: bs) = some (nm ++ 58 :: bs) := cat_of (by simp only [List.length_cons]; omega)
          simp only [hb, not_false_eq_true, decide_true, cond_true, Option.bind_some, Bool.not_true, cond_false, e1, e2, if_false, and_false, Bool.true_eq_false]
          exact this
    · simp [hc]
theorem styles_eq (a b : Sty) : foliolaw06_styles a b = some (decide (a = b)) := by
  obtain ⟨a1, a2, a3, ⟨⟩⟩ := a
  obtain ⟨b1, b2, b3, ⟨⟩⟩ := b
  unfold foliolaw06_styles
  simp only [same_eq]
  by_cases h1 : a1 = b1 <;> by_cases h2 : a2 = b2 <;> simp [h1, h2]
theorem texts_law (s : Bs) (st : Sty) (h1 : st.1.length ≤ lim) (h2 : st.2.1.length ≤ lim) (h3 : Fits st.2.2.1.1) (h4 : Fits st.2.2.1.2.1) : foliolaw06_StyleTexts s st = some true := by
  unfold foliolaw06_StyleTexts
  simp [sparse_eq, rparse_eq, styles_eq, awake, swrite_eq st h1 h2 h3 h4, rwrite_eq st h1 h2 h3 h4]
end Go.Fn
