/- Chapter 6, plainly: a text read, by the style. -/
import Derived.Test.YtkfcinmgebhbhaaDoorQPf
namespace Go.Fn
open Go Go.Lf

abbrev CLR : Bs := ((99 : UInt8) :: ((111 : UInt8) :: ((108 : UInt8) :: ((111 : UInt8) :: ((114 : UInt8) :: ([] : List (UInt8)))))))
/-- the style's step -/
noncomputable def sB (r1 : List Bs) (z8 : Int × Sty × Sty) : Option ((Int × Sty × Sty) ⊕ ((Sty × Sty) ⊕ (Int × Sty))) :=
     bif (decide (z8.1 < (((List.length r1) : Nat) : Int))) then (((Go.Lf.idx r1 z8.1)).bind fun r9 =>
       bif (decide ((r9 : List (UInt8)) = CLR)) then ((Go.Lf.sub r1 (Go.IntKind.wrap .i64 (z8.1 + (1 : Int))) (((List.length r1) : Nat) : Int))).bind fun r10 =>
       ((Go.Fn.style_color r10)).bind fun r11 =>
       (bif (!(!r11.2)) then some ((decide ((z8.2.2.2.2.1.2.2.1 : Int) ≠ (-(1 : Int)))), (z8.2.1, z8.2.2))
         else some (true, (z8.2.1, z8.2.2))).bind fun r12 =>
       bif r12.1 then some (.inl ((67 : Int), (([] : List (UInt8)), (([] : List (UInt8)), (((0 : Int), ((0 : Int), ((0 : Int), ()))), ())))))
       else some (.inr ((Go.IntKind.wrap .i64 (z8.1 + (1 : Int))), (r12.2.1, (r12.2.2.1, (r12.2.2.2.1, ((r12.2.2.2.2.1.1, (r12.2.2.2.2.1.2.1, (r11.1, r12.2.2.2.2.1.2.2.2))), r12.2.2.2.2.2))))))
       else ((Go.Lf.idx r1 z8.1)).bind fun r13 =>
       ((Go.Fn.style_attribute z8.2.2 r13)).bind fun r14 =>
       bif (!r14.1) then some (.inl ((67 : Int), (([] : List (UInt8)), (([] : List (UInt8)), (((0 : Int), ((0 : Int), ((0 : Int), ()))), ())))))
       else some (.inr (z8.1, (z8.2.1, r14.2))) : Option (((Int) × ((List (UInt8)) × ((List (UInt8)) × (((Int) × ((Int) × ((Int) × (Unit)))) × (Unit))))) ⊕ ((Int) × (((List (UInt8)) × ((List (UInt8)) × (((Int) × ((Int) × ((Int) × (Unit)))) × (Unit)))) × ((List (UInt8)) × ((List (UInt8)) × (((Int) × ((Int) × ((Int) × (Unit)))) × (Unit)))))))).bind fun r15 =>
     Go.Lf.onSum r15 (fun a16 =>
     some (.inr (.inr (a16.1, a16.2)))) (fun b17 =>
     some (.inl ((Go.IntKind.wrap .i64 (b17.1 + (1 : Int))), (b17.2.1, b17.2.2))))
     else some (.inr (.inl (z8.2.1, z8.2.2)))
theorem s_end (ws : List Bs) (B : Int × Sty × Sty → Option ((Int × Sty × Sty) ⊕ ((Sty × Sty) ⊕ (Int × Sty)))) (hB : ∀ z, B z = sB ws z) (z0 st : Sty) : loopC B (((ws.length : Nat) : Int), z0, st) = some (.inl (z0, st)) := by
  rw [loopC_step, hB]
  simp [sB]
theorem s_loop (ws : List Bs) (hw : ∀ x ∈ ws, x ≠ [] ∧ x.length ≤ 4096) (hn : ws.length ≤ 4096) (B : Int × Sty × Sty → Option ((Int × Sty × Sty) ⊕ ((Sty × Sty) ⊕ (Int × Sty)))) (hB : ∀ z, B z = sB ws z) (z0 : Sty) : ∀ (n m i : Nat) (st : Sty), m ≤ n → i + m = ws.length →
    loopC B ((i : Int), z0, st) = some (match pw false st (ws.drop i) with | some st' => .inl (z0, st') | none => .inr (67, zs)) := fun n => by
  induction n with
  | zero =>
    intro m i st hm hi
    have hi : i = ws.length := by omega
    subst hi
    rw [s_end ws B hB, List.drop_length]; rfl
  | succ n ih =>
    intro m i st hm hi
    by_cases hz : m = 0
    · have hi : i = ws.length := by omega
      subst hi
      rw [s_end ws B hB, List.drop_length]; rfl
    · have hlt : i < ws.length := by omega
      have hg : ws[i]? = some ws[i] := List.getElem?_eq_getElem hlt
      have e1 : (i : Int) < ((ws.length : Nat) : Int) := by omega
      obtain ⟨hne, hlen⟩ := hw ws[i] (List.getElem_mem hlt)
      have hsub : sub ws ((i + 1 : Nat) : Int) ((ws.length : Nat) : Int) = some (ws.drop (i + 1)) := by
        rw [sub_nat (by omega) (by omega), List.take_of_length_le (by simp)]
      rw [loopC_step, hB, List.drop_eq_getElem_cons hlt]
      unfold sB pw
      simp only [e1, decide_true, cond_true, idx_nat, hg, Option.bind_some]
      rw [wrapS (by omega)]
      by_cases hc : ws[i] = COLOR
      · rw [if_pos hc]
        simp only [hc, decide_true, cond_true, hsub, Option.bind_some]
        by_cases h2 : i + 1 < ws.length
        · obtain ⟨_, hlen2⟩ := hw ws[i + 1] (List.getElem_mem h2)
          obtain ⟨k, hk1, hk2⟩ := scolor_eq ws[i + 1] (ws.drop (i + 1 + 1)) (by omega)
          rw [List.drop_eq_getElem_cons h2, hk1]
          unfold pw
          simp only [Option.bind_some]
          cases hcs : colS ws[i + 1] with
          | none => simp [onSum, zs]
          | some c =>
            have := hk2 c hcs
            subst this
            by_cases hm1 : st.2.2.1.2.2.1 = -1
            · simp only [hm1, Option.isSome_some, Bool.not_true, Bool.not_false, cond_true, ne_eq, not_true_eq_false, decide_false, Option.bind_some, cond_false, onSum, if_true]
              rw [wrapS (by omega), ih (m - 2) (i + 1 + 1) _ (by omega) (by omega)]
            · simp [hm1, onSum, zs]
        · rw [List.drop_eq_nil_of_le (by omega), scolor_nil]
          simp [onSum, zs, pw]
      · rw [if_neg hc]
        have hc' : decide (ws[i] = CLR) = false := decide_eq_false hc
        simp only [hc', cond_false]
        cases hw1 : ws[i] with
        | nil => exact absurd hw1 hne
        | cons s a =>
          rw [hw1] at hlen
          rw [attr_eq st s a (by simp only [List.length_cons] at hlen; omega)]
          cases attrS st.2.2.1 (s :: a) with
          | none => simp [onSum, zs]
          | some c =>
            simp only [Option.bind_some, Bool.not_true, cond_false, onSum]
            rw [wrapS (by omega), ih (m - 1) (i + 1) _ (by omega) (by omega)]
def parse (s : Bs) : Sty × Int :=
  if 4096 < s.length then (zs, 2)
  else match sp [] [] s with
    | [] => (zs, 67)
    | w :: r => if (nm w).2.2 then match pw false ((nm w).1, (nm w).2.1, (0, 0, -1, ()), ()) r with | some st => (st, 0) | none => (zs, 67) else (zs, 67)
theorem sparse_eq (s : Bs) : style_Parse s = some (parse s) := by
  unfold style_Parse parse
  by_cases h0 : 4096 < s.length
  · have : (4096 : Int) < ((s.length : Nat) : Int) := by omega
    simp [this, h0, zs]
  · have h1 : ¬ (4096 : Int) < ((s.length : Nat) : Int) := by omega
    rw [if_neg h0]
    simp only [h1, decide_false, cond_false, fields_eq s (by omega), Option.bind_some]
    have hw := sp_words s [] [] 4096 (fun x h => by cases h) (by simp; omega)
    have hn : (sp [] [] s).length ≤ 4096 := by have := sp_len s [] []; simp at this; omega
    revert hw hn
    generalize sp [] [] s = ws
    intro hw hn
    cases ws with
    | nil => simp [zs]
    | cons w r =>
      obtain ⟨hne, hlen⟩ := hw w List.mem_cons_self
      have h2 : ¬ (((w :: r).length : Nat) : Int) = 0 := by simp only [List.length_cons]; omega
      have h3 : idx (w :: r) 0 = some w := rfl
      have hl := fun z0 st => s_loop (w :: r) hw hn (sB (w :: r)) (fun _ => rfl) z0 r.length r.length 1 st (Nat.le_refl _) (by simp only [List.length_cons]; omega)
      have hl : ∀ z0 st, loopC (sB (w :: r)) ((1 : Int), z0, st) = some (match pw false st r with | some st' => .inl (z0, st') | none => .inr (67, zs)) := fun z0 st => hl z0 st
      simp only [h2, decide_false, cond_false, h3, Option.bind_some]
      have hcut : strings_Cut w [58] = some (match p58 w with | none => (w, [], false) | some i => (w.take i, w.drop (i + 1), true)) := by
        unfold strings_Cut
        rw [if_pos (by omega), cut58]
        cases p58 w <;> rfl
      rw [hcut, plain_eq]
      unfold nm
      have fin : ∀ (a b : Bs), (loopC (sB (w :: r)) ((1 : Int), (([], [], (0, 0, 0, ()), ()) : Sty), ((a, b, (0, 0, -1, ()), ()) : Sty))).bind (fun r18 => onSum r18 (fun a19 => some (a19.2, (0 : Int))) (fun b20 => some (b20.2, b20.1))) = some (match pw false (a, b, (0, 0, -1, ()), ()) r with | some st => (st, 0) | none => (zs, 67)) := fun a b => by
        rw [hl]
        cases pw false (a, b, (0, 0, -1, ()), ()) r <;> rfl
      cases hp : p58 w with
      | none =>
        simp only [Option.bind_some, named_eq w (by omega)]
        cases hk : okName w with
        | false => rfl
        | true => exact fin w []
      | some i =>
        simp only [Option.bind_some, named_eq (w.take i) (by simp; omega), named_eq (w.drop (i + 1)) (by simp; omega)]
        cases hk : okName (w.take i) with
        | false => rfl
        | true =>
          cases hk2 : okName (w.drop (i + 1)) with
          | false => rfl
          | true => exact fin (w.take i) (w.drop (i + 1))
end Go.Fn
