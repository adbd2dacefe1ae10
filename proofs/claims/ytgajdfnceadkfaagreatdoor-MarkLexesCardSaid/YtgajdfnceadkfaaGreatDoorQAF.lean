/- Chapter 4, plainly: the document's lexer, a line of text. -/
import Derived.Test.YtgajdfnceadkfaaGreatDoorQAE
import Derived.Test.YtgajdfnceadkfaaGreatDoorProg
import Derived.KernelRfl
import Derived.Test.YtgajdfnceadkfaaGreatDoorQAC
import Derived.Test.YtgajdfnceadkfaaGreatDoorQAD
import Derived.Carry
import Derived.ChangeSame
import Derived.ChangeMaps5
import Derived.SizedLaws
import Derived.ChangeSlices
import Derived.SliceStrings
import Derived.ProofKit
import Derived.OpenShut
import Derived.Deep.DeepHandedRow
import Derived.Lib.LaidTab
namespace Go.Fn
open Go Go.Lf
/-- in a paragraph, or ahead of its first sign -/
def Md (x : Lx) (p q : Bool) : Prop := (p = true ∧ q = x.fresh) ∨ (p = false ∧ q = false ∧ x.fresh = true ∧ x.bl = none ∧ x.run = none)
theorem condE2 (p1 p2 p3 : Bool) (a b c : Bool) (x : RxT) : (bif !p1 then bif !p2 then bif p3 then bif !a then bif b then some (c, x) else some (false, x) else some (false, x) else some (false, x) else some (true, x) else some (true, x)) = some (p1 || p2 || (p3 && !a && b && c), x) := by
  cases p1 <;> cases p2 <;> cases p3 <;> cases a <;> cases b <;> rfl
theorem opT_len (l : List Brc) : (opT l).length = l.length := by unfold opT; rw [List.length_map]
theorem opT_nil (l : List Brc) : opT l = [] ↔ l = [] := by unfold opT; simp
/-- a sign of a line -/
theorem sign_eq {x : Lx} {n : Nat} (h : x.Ok n) (l : Bs) (i : Nat) (hi : i < l.length) (hl : l.length ≤ 100000) (hn : n ≤ 90000000) (p q : Bool) (hm : Md x p q) (L : Int) (hL : L = (x.line : Int)) (B : Int × RxT → Option ((Int × RxT) ⊕ (RxT ⊕ RxT))) (hB : ∀ z1, B z1 = (bif (decide (z1.1 < (((List.length l) : Nat) : Int))) then (((Go.Lf.idx l z1.1)).bind fun r2 =>
       ((Go.Fn.folioref04_blank (((UInt8.toNat r2) : Nat) : Int))).bind fun r3 =>
       bif r3 then ((Go.Fn.folioref04_lexer__pause z1.2 L (Go.IntKind.wrap .i64 (z1.1 + (1 : Int))))).bind fun r4 =>
       some (.inl (z1.1, r4))
       else ((Go.Fn.folioref04_lexer__begin z1.2)).bind fun r5 =>
       bif (decide (((((UInt8.toNat r2) : Nat) : Int) : Int) = (92 : Int))) then (bif (!(decide ((((List.length l) : Nat) : Int) ≤ (Go.IntKind.wrap .i64 (z1.1 + (1 : Int)))))) then ((Go.Lf.idx l (Go.IntKind.wrap .i64 (z1.1 + (1 : Int))))).bind fun r6 =>
         ((Go.Fn.folioref04_special (((UInt8.toNat r6) : Nat) : Int))).bind fun r7 =>
         some ((!r7), r5)
         else some (true, r5)).bind fun r8 =>
       bif r8.1 then ((Go.Fn.folioref04_behind l (Go.IntKind.wrap .i64 (z1.1 + (1 : Int))))).bind fun r9 =>
       ((Go.Fn.folioref04_lexer__fail r8.2 (42 : Int) L (Go.IntKind.wrap .i64 (z1.1 + (1 : Int))) r9)).bind fun r10 =>
       some (.inr r10)
       else ((Go.Fn.folioref04_lexer__rest r8.2)).bind fun r11 =>
       ((Go.Lf.sub l (Go.IntKind.wrap .i64 (z1.1 + (1 : Int))) (Go.IntKind.wrap .i64 (z1.1 + (2 : Int))))).bind fun r12 =>
       ((Go.Fn.folioref04_lexer__put r11 r12 L (Go.IntKind.wrap .i64 (z1.1 + (1 : Int))))).bind fun r13 =>
       some (.inl ((Go.IntKind.wrap .i64 (z1.1 + (1 : Int))), r13))
       else bif (decide (((((UInt8.toNat r2) : Nat) : Int) : Int) = (123 : Int))) then ((Go.Fn.folioref04_letters l (Go.IntKind.wrap .i64 (z1.1 + (1 : Int))))).bind fun r14 =>
       (bif (!(decide (r14 < (1 : Int)))) then bif (!(decide ((12 : Int) < r14))) then bif (decide ((Go.IntKind.wrap .i64 ((Go.IntKind.wrap .i64 (z1.1 + (1 : Int))) + r14)) < (((List.length l) : Nat) : Int))) then ((Go.Lf.idx l (Go.IntKind.wrap .i64 ((Go.IntKind.wrap .i64 (z1.1 + (1 : Int))) + r14)))).bind fun r15 =>
         ((Go.Fn.folioref04_blank (((UInt8.toNat r15) : Nat) : Int))).bind fun r16 =>
         bif (!r16) then ((Go.Lf.idx l (Go.IntKind.wrap .i64 ((Go.IntKind.wrap .i64 (z1.1 + (1 : Int))) + r14)))).bind fun r17 =>
         bif (decide (((((UInt8.toNat r17) : Nat) : Int) : Int) ≠ (124 : Int))) then ((Go.Lf.idx l (Go.IntKind.wrap .i64 ((Go.IntKind.wrap .i64 (z1.1 + (1 : Int))) + r14)))).bind fun r18 =>
         some ((decide (((((UInt8.toNat r18) : Nat) : Int) : Int) ≠ (125 : Int))), r5)
         else some (false, r5)
         else some (false, r5)
         else some (false, r5)
         else some (true, r5)
         else some (true, r5)).bind fun r19 =>
       bif r19.1 then ((Go.Fn.folioref04_lexer__fail r19.2 (43 : Int) L (Go.IntKind.wrap .i64 (z1.1 + (1 : Int))) ([] : List (UInt8)))).bind fun r20 =>
       some (.inr r20)
       else bif (decide ((16 : Int) ≤ (((List.length r19.2.2.2.2.1) : Nat) : Int))) then ((Go.Lf.sub l (Go.IntKind.wrap .i64 (z1.1 + (1 : Int))) (Go.IntKind.wrap .i64 ((Go.IntKind.wrap .i64 (z1.1 + (1 : Int))) + r14)))).bind fun r21 =>
       ((Go.Fn.folioref04_lexer__fail r19.2 (46 : Int) L (Go.IntKind.wrap .i64 (z1.1 + (1 : Int))) r21)).bind fun r22 =>
       some (.inr r22)
       else ((Go.Lf.sub l (Go.IntKind.wrap .i64 (z1.1 + (1 : Int))) (Go.IntKind.wrap .i64 ((Go.IntKind.wrap .i64 (z1.1 + (1 : Int))) + r14)))).bind fun r23 =>
       ((Go.Fn.folioref04_lexer__mark r19.2 ((3 : Int), (r23, (([] : List (UInt8)), (L, ((Go.IntKind.wrap .i64 (z1.1 + (1 : Int))), ()))))))).bind fun r24 =>
       ((Go.Lf.idx r24.1 (Go.IntKind.wrap .i64 ((((List.length r24.1) : Nat) : Int) - (1 : Int))))).bind fun r25 =>
       ((Go.Lf.app (56 : Nat) r24.2.2.2.1 (r25 :: ([] : List Tok)))).bind fun r26 =>
       some (.inl ((Go.IntKind.wrap .i64 (z1.1 + r14)), (r24.1, (r24.2.1, (r24.2.2.1, (r26, (r24.2.2.2.2.1, (r24.2.2.2.2.2.1, (r24.2.2.2.2.2.2.1, (true, r24.2.2.2.2.2.2.2.2))))))))))
       else bif (decide (((((UInt8.toNat r2) : Nat) : Int) : Int) = (125 : Int))) then bif (decide (((((List.length r5.2.2.2.1) : Nat) : Int) : Int) = (0 : Int))) then ((Go.Fn.folioref04_lexer__fail r5 (44 : Int) L (Go.IntKind.wrap .i64 (z1.1 + (1 : Int))) ([] : List (UInt8)))).bind fun r27 =>
       some (.inr r27)
       else ((Go.Fn.folioref04_lexer__mark r5 ((5 : Int), (([] : List (UInt8)), (([] : List (UInt8)), (L, ((Go.IntKind.wrap .i64 (z1.1 + (1 : Int))), ()))))))).bind fun r28 =>
       ((Go.Lf.sub r28.2.2.2.1 (0 : Int) (Go.IntKind.wrap .i64 ((((List.length r28.2.2.2.1) : Nat) : Int) - (1 : Int))))).bind fun r29 =>
       some (.inl (z1.1, (r28.1, (r28.2.1, (r28.2.2.1, (r29, r28.2.2.2.2))))))
       else (bif (decide (((((UInt8.toNat r2) : Nat) : Int) : Int) = (124 : Int))) then some ((decide ((0 : Int) < (((List.length r5.2.2.2.1) : Nat) : Int))), r5)
         else some (false, r5)).bind fun r30 =>
       bif r30.1 then ((Go.Fn.folioref04_lexer__mark r30.2 ((4 : Int), (([] : List (UInt8)), (([] : List (UInt8)), (L, ((Go.IntKind.wrap .i64 (z1.1 + (1 : Int))), ()))))))).bind fun r31 =>
       some (.inl (z1.1, r31))
       else ((Go.Fn.folioref04_lexer__rest r30.2)).bind fun r32 =>
       ((Go.Lf.sub l z1.1 (Go.IntKind.wrap .i64 (z1.1 + (1 : Int))))).bind fun r33 =>
       ((Go.Fn.folioref04_lexer__put r32 r33 L (Go.IntKind.wrap .i64 (z1.1 + (1 : Int))))).bind fun r34 =>
       some (.inl (z1.1, r34)) : Option (((Int) × RxT) ⊕ RxT)).bind fun r35 =>
     Go.Lf.onSum r35 (fun a36 =>
     some (.inl ((Go.IntKind.wrap .i64 (a36.1 + (1 : Int))), a36.2))) (fun b37 =>
     some (.inr (.inr b37)))
     else some (.inr (.inl z1.2)))) :
    (∃ w p' q', w.code ≠ 0 ∧ stepS x (i + 1) l[i] (l.drop (i + 1)) = .error w ∧ B ((i : Int), rx p q x) = some (.inr (.inr (rxW (some w) p' q' x)))) ∨
    (∃ (k : Nat) (y : Lx) (p' q' : Bool), stepS x (i + 1) l[i] (l.drop (i + 1)) = .ok (k, y) ∧ i + 1 + k ≤ l.length ∧ y.Ok (n + 8) ∧ Md y p' q' ∧ (p' = false → p = false ∧ k = 0 ∧ blkB l[i] = true) ∧ B ((i : Int), rx p q x) = some (.inl (((i + k + 1 : Nat) : Int), rx p' q' y))) := by
  subst hL
  have hw : IntKind.wrap .i64 ((i : Int) + 1) = ((i + 1 : Nat) : Int) := wrapS (by omega)
  have h0 : (i : Int) < ((l.length : Nat) : Int) := by omega
  have hg : idx l (i : Int) = some l[i] := by rw [idx_nat, List.getElem?_eq_getElem hi]
  have c1 : decide (((l[i].toNat : Nat) : Int) = 92) = (l[i] == 92) := nat8 _ 92
  have c2 : decide (((l[i].toNat : Nat) : Int) = 123) = (l[i] == 123) := nat8 _ 123
  have c3 : decide (((l[i].toNat : Nat) : Int) = 125) = (l[i] == 125) := nat8 _ 125
  have c4 : decide (((l[i].toNat : Nat) : Int) = 124) = (l[i] == 124) := nat8 _ 124
  rw [hB]
  simp only [h0, decide_true, cond_true, hg, Option.bind_some, rblank_eq, hw, c1, c2, c3, c4]
  unfold stepS
  cases hbk : blkB l[i] with
  | true =>
    right
    have hpz := pause_eq (x := x) p q ((i + 1 : Nat) : Int) (by
      rcases hm with ⟨rfl, rfl⟩ | ⟨rfl, _, h1, _⟩
      · exact .inl ⟨rfl, rfl⟩
      · exact .inr ⟨rfl, h1⟩)
    refine ⟨0, waitS x ((i + 1 : Nat) : Int), p, q, by simp, by omega, (wait_ok h _ (by omega)).mono (by omega), ?_, fun e => ⟨e, rfl, rfl⟩, ?_⟩
    · rcases hm with ⟨rfl, rfl⟩ | ⟨rfl, rfl, h1, h2, h3⟩
      · refine .inl ⟨rfl, ?_⟩
        unfold waitS; split <;> rfl
      · refine .inr ⟨rfl, rfl, ?_⟩
        have : waitS x ((i + 1 : Nat) : Int) = x := by unfold waitS; rw [if_neg (by rw [h1]; simp)]
        rw [this]; exact ⟨h1, h2, h3⟩
    · simp only [cond_true, hpz, Option.bind_some, onSum, hw]
      
  | false =>
    have hpb : p = true ∨ (p = false ∧ x.bl = none) := by
      rcases hm with ⟨rfl, _⟩ | ⟨rfl, _, _, h2, _⟩
      · exact .inl rfl
      · exact .inr ⟨rfl, h2⟩
    obtain ⟨q0, hbe⟩ := begin_eq' (x := x) p q hpb
    simp only [cond_false, hbe, Option.bind_some, Bool.false_eq_true, if_false]
    have fr_put : ∀ s c, (putS (settleS x) s (x.line : Int) c).fresh = false := fun s c => by
      show (settleS x).fresh = false
      unfold settleS; split <;> rfl
    have fr_tok : ∀ k s c, (tokS x k s c).fresh = false := fun k s c => by
      show (settleS x).fresh = false
      unfold settleS; split <;> rfl
    by_cases h92 : l[i] = 92
    · have b92 : (l[i] == 92) = true := by simpa using h92
      simp only [b92, cond_true, if_pos h92]
      by_cases h1 : i + 1 < l.length
      · have h1' : ¬ ((l.length : Nat) : Int) ≤ ((i + 1 : Nat) : Int) := by omega
        have hd2 : l.drop (i + 1) = l[i + 1] :: l.drop (i + 1 + 1) := List.drop_eq_getElem_cons h1
        have hg2 : idx l ((i + 1 : Nat) : Int) = some l[i + 1] := by rw [idx_nat, List.getElem?_eq_getElem h1]
        simp only [h1', decide_false, Bool.not_false, cond_true, hg2, Option.bind_some, rspecial_eq]
        rw [hd2]
        cases hs : spcB l[i + 1] with
        | true =>
          right
          have hw2 : IntKind.wrap .i64 ((i : Int) + 2) = ((i + 1 + 1 : Nat) : Int) := by rw [wrap64 (by omega) (by omega)]; omega
          have hsub : sub l ((i + 1 : Nat) : Int) ((i + 1 + 1 : Nat) : Int) = some [l[i + 1]] := by
            rw [sub_len (k := 1) (by omega), hd2]; rfl
          obtain ⟨q', e⟩ := rest_eq h true q0 (by omega)
          have hp := rput_eq (settle_ok (m := n + 1) h (Nat.le_refl _)) true q' [l[i + 1]] (x.line : Int) ((i + 1 : Nat) : Int) (by simp; omega)
          refine ⟨1, putS (settleS x) [l[i + 1]] (x.line : Int) ((i + 1 : Nat) : Int), true, false, by simp [hs], by omega, put_ok (settle_ok (m := n + 1) h (Nat.le_refl _)) _ _ _ (by simp) (by simp), .inl ⟨rfl, (fr_put _ _).symm⟩, fun e => (by cases e), ?_⟩
          have hw3 : IntKind.wrap .i64 (((i + 1 : Nat) : Int) + 1) = ((i + 1 + 1 : Nat) : Int) := wrapS (by omega)
          simp only [Bool.not_true, cond_false, e, Option.bind_some, hw2, hsub, hp, onSum, hw3]
        | false =>
          left
          refine ⟨⟨42, x.line, ((i + 1 : Nat) : Int), chrB (l[i + 1] :: l.drop (i + 1 + 1))⟩, true, q0, (show (42 : Int) ≠ 0 by decide), by simp [hs], ?_⟩
          have hbh := behind_eq l i hl hi h92
          rw [if_pos h1, hd2] at hbh
          simp only [Bool.not_false, cond_true, hbh, Option.bind_some, fail_eq, onSum]
      · have h1' : ((l.length : Nat) : Int) ≤ ((i + 1 : Nat) : Int) := by omega
        have hd2 : l.drop (i + 1) = [] := List.drop_eq_nil_of_le (by omega)
        left
        rw [hd2]
        refine ⟨⟨42, x.line, ((i + 1 : Nat) : Int), []⟩, true, q0, (show (42 : Int) ≠ 0 by decide), rfl, ?_⟩
        have hbh := behind_eq l i hl hi h92
        rw [if_neg h1] at hbh
        simp only [h1', decide_true, Bool.not_true, cond_false, Option.bind_some, cond_true, hbh, fail_eq, onSum]
    have b92 : (l[i] == 92) = false := by simpa using h92
    simp only [b92, cond_false, if_neg h92]
    by_cases h123 : l[i] = 123
    · have b123 : (l[i] == 123) = true := by simpa using h123
      simp only [b123, cond_true, if_pos h123]
      have hk := lets_le (l.drop (i + 1))
      rw [List.length_drop] at hk
      rw [letters_eq l (i + 1) (by omega) (by omega)]
      simp only [Option.bind_some]
      generalize lets (l.drop (i + 1)) = k at *
      have hw3 : IntKind.wrap .i64 (((i + 1 : Nat) : Int) + (k : Int)) = ((i + 1 + k : Nat) : Int) := by rw [wrap64 (by omega) (by omega)]; omega
      have hw4 : IntKind.wrap .i64 ((i : Int) + (k : Int)) = ((i + k : Nat) : Int) := by rw [wrap64 (by omega) (by omega)]; omega
      have hw5 : IntKind.wrap .i64 (((i + k : Nat) : Int) + 1) = ((i + k + 1 : Nat) : Int) := wrapS (by omega)
      rw [hw3, hw4]
      have k0 : decide (((k : Nat) : Int) < 1) = (k == 0) := by
        by_cases h : k = 0
        · subst h; rfl
        · have : ¬ ((k : Nat) : Int) < 1 := by omega
          simp [this, h]
      have k12 : decide ((12 : Int) < ((k : Nat) : Int)) = decide (12 < k) := by
        by_cases h : 12 < k
        · have : (12 : Int) < ((k : Nat) : Int) := by omega
          simp [this, h]
        · have : ¬ (12 : Int) < ((k : Nat) : Int) := by omega
          simp [this, h]
      rw [k0, k12]
      have hdd : (l.drop (i + 1)).drop k = l.drop (i + 1 + k) := by rw [List.drop_drop]
      have hE : (bif !(k == 0) then bif !(decide (12 < k)) then bif (decide (((i + 1 + k : Nat) : Int) < ((l.length : Nat) : Int))) then ((Go.Lf.idx l ((i + 1 + k : Nat) : Int))).bind fun r15 =>
         bif (!(blkB r15)) then ((Go.Lf.idx l ((i + 1 + k : Nat) : Int))).bind fun r17 =>
         bif (decide (((((UInt8.toNat r17) : Nat) : Int) : Int) ≠ (124 : Int))) then ((Go.Lf.idx l ((i + 1 + k : Nat) : Int))).bind fun r18 =>
         some ((decide (((((UInt8.toNat r18) : Nat) : Int) : Int) ≠ (125 : Int))), rx true q0 x)
         else some (false, rx true q0 x)
         else some (false, rx true q0 x)
         else some (false, rx true q0 x)
         else some (true, rx true q0 x)
         else some (true, rx true q0 x)) = some (endB k ((l.drop (i + 1)).drop k), rx true q0 x) := by
        rw [hdd]
        by_cases h1 : i + 1 + k < l.length
        · have h1' : ((i + 1 + k : Nat) : Int) < ((l.length : Nat) : Int) := by omega
          have hg : idx l ((i + 1 + k : Nat) : Int) = some l[i + 1 + k] := by rw [idx_nat, List.getElem?_eq_getElem h1]
          have c1 : decide (((l[i + 1 + k].toNat : Nat) : Int) = 124) = (l[i + 1 + k] == 124) := nat8 _ 124
          have c2 : decide (((l[i + 1 + k].toNat : Nat) : Int) = 125) = (l[i + 1 + k] == 125) := nat8 _ 125
          simp only [h1', decide_true, hg, Option.bind_some, rblank_eq, ne_eq, decide_not, c1, c2]
          rw [condE2, List.drop_eq_getElem_cons h1]
          unfold endB
          simp [bne]
        · have h1' : ¬ ((i + 1 + k : Nat) : Int) < ((l.length : Nat) : Int) := by omega
          rw [List.drop_eq_nil_of_le (by omega)]
          simp only [h1', decide_false, cond_false]
          unfold endB
          cases k == 0 <;> cases decide (12 < k) <;> rfl
      rw [hE]
      simp only [Option.bind_some]
      have hop : (rx true q0 x).2.2.2.1 = opT x.opn := rfl
      cases he : endB k ((l.drop (i + 1)).drop k) with
      | true =>
        left
        refine ⟨⟨43, x.line, ((i + 1 : Nat) : Int), []⟩, true, q0, (show (43 : Int) ≠ 0 by decide), rfl, ?_⟩
        simp only [cond_true, fail_eq, Option.bind_some, onSum]
      | false =>
        simp only [cond_false, Bool.false_eq_true, if_false, hop, opT_len]
        by_cases h16 : 16 ≤ x.opn.length
        · have h16' : (16 : Int) ≤ ((x.opn.length : Nat) : Int) := by omega
          left
          rw [if_pos h16]
          refine ⟨⟨46, x.line, ((i + 1 : Nat) : Int), (l.drop (i + 1)).take k⟩, true, q0, (show (46 : Int) ≠ 0 by decide), rfl, ?_⟩
          simp only [h16', decide_true, cond_true]
          rw [sub_len (by omega)]
          simp only [Option.bind_some, fail_eq, onSum]
        · have h16' : ¬ (16 : Int) ≤ ((x.opn.length : Nat) : Int) := by omega
          right
          rw [if_neg h16]
          have ht := tok_ok (m := n + 3) h 3 ((l.drop (i + 1)).take k) ((i + 1 : Nat) : Int) (Nat.le_refl _)
          refine ⟨k, _, true, true, rfl, by omega, ⟨Nat.le_trans ht.out (by omega), by simp; omega, fun r hr => (by cases hr), ht.bl⟩, .inl ⟨rfl, rfl⟩, fun e => (by cases e), ?_⟩
          simp only [h16', decide_false, cond_false]
          rw [sub_len (by omega)]
          simp only [Option.bind_some]
          rw [mark_eq' h true q0 3 ((l.drop (i + 1)).take k) ((i + 1 : Nat) : Int) (by omega)]
          have hout := ht.out
          have e1 : (rx true false (tokS x 3 ((l.drop (i + 1)).take k) ((i + 1 : Nat) : Int))).1 = (tokS x 3 ((l.drop (i + 1)).take k) ((i + 1 : Nat) : Int)).out := rfl
          have e2 : (tokS x 3 ((l.drop (i + 1)).take k) ((i + 1 : Nat) : Int)).out = (flushS (settleS x)).out ++ [(3, (l.drop (i + 1)).take k, [], (x.line : Int), ((i + 1 : Nat) : Int), ())] := rfl
          have e3 : idx (tokS x 3 ((l.drop (i + 1)).take k) ((i + 1 : Nat) : Int)).out (((tokS x 3 ((l.drop (i + 1)).take k) ((i + 1 : Nat) : Int)).out.length : Int) - 1) = some (3, (l.drop (i + 1)).take k, [], (x.line : Int), ((i + 1 : Nat) : Int), ()) := by
            rw [e2]
            have : ((((flushS (settleS x)).out ++ [((3 : Int), (l.drop (i + 1)).take k, ([] : Bs), ((x.line : Nat) : Int), ((i + 1 : Nat) : Int), ())]).length : Nat) : Int) - 1 = (((flushS (settleS x)).out.length : Nat) : Int) := by simp
            rw [this, idx_nat]
            simp
          have hwl : IntKind.wrap .i64 (((tokS x 3 ((l.drop (i + 1)).take k) ((i + 1 : Nat) : Int)).out.length : Int) - 1) = ((tokS x 3 ((l.drop (i + 1)).take k) ((i + 1 : Nat) : Int)).out.length : Int) - 1 := wrap64 (by omega) (by omega)
          have e4 : (rx true false (tokS x 3 ((l.drop (i + 1)).take k) ((i + 1 : Nat) : Int))).2.2.2.1 = opT x.opn := by show opT (tokS x 3 _ _).opn = _; rw [tok_opn]
          have ha : app 56 (opT x.opn) [((3 : Int), (l.drop (i + 1)).take k, ([] : Bs), ((x.line : Nat) : Int), ((i + 1 : Nat) : Int), ())] = some (opT x.opn ++ [((3 : Int), (l.drop (i + 1)).take k, ([] : Bs), ((x.line : Nat) : Int), ((i + 1 : Nat) : Int), ())]) := app_of (by rw [opT_len]; simp; omega)
          simp only [Option.bind_some, e1, hwl, e3, e4, ha, onSum, hw5]
          have e5 : opT x.opn ++ [((3 : Int), (l.drop (i + 1)).take k, ([] : Bs), ((x.line : Nat) : Int), ((i + 1 : Nat) : Int), ())] = opT (x.opn ++ [((l.drop (i + 1)).take k, ((x.line : Nat) : Int), ((i + 1 : Nat) : Int), ())]) := by unfold opT; simp
          rw [e5]
          rfl
    have b123 : (l[i] == 123) = false := by simpa using h123
    simp only [b123, cond_false, if_neg h123]
    have hop : (rx true q0 x).2.2.2.1 = opT x.opn := rfl
    by_cases h125 : l[i] = 125
    · have b125 : (l[i] == 125) = true := by simpa using h125
      simp only [b125, cond_true, if_pos h125, hop, opT_len]
      by_cases ho : x.opn = []
      · left
        rw [if_pos ho]
        refine ⟨⟨44, x.line, ((i + 1 : Nat) : Int), []⟩, true, q0, (show (44 : Int) ≠ 0 by decide), rfl, ?_⟩
        simp only [ho, List.length_nil]
        simp only [show decide (((0 : Nat) : Int) = 0) = true from rfl, cond_true, fail_eq, Option.bind_some, onSum]
      · right
        have hpos := List.length_pos_iff.2 ho
        have h16 := h.opn
        have h0 : ¬ ((x.opn.length : Nat) : Int) = 0 := by omega
        have ht := tok_ok (m := n + 3) h 5 [] ((i + 1 : Nat) : Int) (Nat.le_refl _)
        rw [if_neg ho]
        refine ⟨0, _, true, false, rfl, by omega, ⟨Nat.le_trans ht.out (by omega), by simp; omega, fun r hr => (by cases hr), ht.bl⟩, .inl ⟨rfl, (fr_tok 5 [] ((i + 1 : Nat) : Int)).symm⟩, fun e => (by cases e), ?_⟩
        simp only [h0, decide_false, cond_false]
        rw [mark_eq' h true q0 5 [] ((i + 1 : Nat) : Int) (by omega)]
        have e4 : (rx true false (tokS x 5 [] ((i + 1 : Nat) : Int))).2.2.2.1 = opT x.opn := by show opT (tokS x 5 _ _).opn = _; rw [tok_opn]
        have hw5 : IntKind.wrap .i64 (((x.opn.length : Nat) : Int) - 1) = ((x.opn.length - 1 : Nat) : Int) := by rw [wrap64 (by omega) (by omega)]; omega
        have hsb : sub (opT x.opn) (0 : Int) ((x.opn.length - 1 : Nat) : Int) = some (opT x.opn.dropLast) := by
          have := sub_nat (l := opT x.opn) (a := 0) (b := x.opn.length - 1) (by omega) (by rw [opT_len]; omega)
          rw [List.dropLast_eq_take]
          unfold opT at this ⊢
          rw [List.map_take]
          simpa using this
        simp only [Option.bind_some, e4, opT_len, hw5, hsb, onSum, hw]
        rfl
    have b125 : (l[i] == 125) = false := by simpa using h125
    simp only [b125, cond_false, if_neg h125, hop, opT_len]
    have hbar : (bif (l[i] == 124) then some ((decide ((0 : Int) < (((List.length x.opn) : Nat) : Int))), rx true q0 x) else some (false, rx true q0 x)) = some ((l[i] == 124) && decide (x.opn ≠ []), rx true q0 x) := by
      have : decide ((0 : Int) < (((List.length x.opn) : Nat) : Int)) = decide (x.opn ≠ []) := by
        cases x.opn with
        | nil => rfl
        | cons a b => simp
      rw [this]
      cases l[i] == 124 <;> rfl
    rw [hbar]
    simp only [Option.bind_some]
    right
    by_cases hbr : l[i] = 124 ∧ x.opn ≠ []
    · have e : ((l[i] == 124) && decide (x.opn ≠ [])) = true := by simp [hbr.1, hbr.2]
      rw [if_pos hbr]
      refine ⟨0, tokS x 4 [] ((i + 1 : Nat) : Int), true, false, rfl, by omega, tok_ok h _ _ _ (by omega), .inl ⟨rfl, (fr_tok _ _ _).symm⟩, fun e => (by cases e), ?_⟩
      simp only [e, cond_true]
      rw [mark_eq' h true q0 4 [] ((i + 1 : Nat) : Int) (by omega)]
      simp only [Option.bind_some, onSum, hw]
    · have e : ((l[i] == 124) && decide (x.opn ≠ [])) = false := by
        by_cases q : l[i] = 124
        · have : x.opn = [] := Classical.byContradiction fun hc => hbr ⟨q, hc⟩
          simp [this]
        · simp [q]
      rw [if_neg hbr]
      obtain ⟨q', e'⟩ := rest_eq h true q0 (by omega)
      have hp := rput_eq (settle_ok (m := n + 1) h (Nat.le_refl _)) true q' [l[i]] (x.line : Int) ((i + 1 : Nat) : Int) (by simp; omega)
      have hsub : sub l (i : Int) ((i + 1 : Nat) : Int) = some [l[i]] := by
        rw [sub_len (k := 1) (by omega), List.drop_eq_getElem_cons hi]; rfl
      refine ⟨0, putS (settleS x) [l[i]] (x.line : Int) ((i + 1 : Nat) : Int), true, false, rfl, by omega, put_ok (settle_ok (m := n + 1) h (Nat.le_refl _)) _ _ _ (by simp) (by simp), .inl ⟨rfl, (fr_put _ _).symm⟩, fun e => (by cases e), ?_⟩
      simp only [e, cond_false, e', Option.bind_some, hsub, hp, onSum, hw]
theorem rtext_loop {l : Bs} (hl : l.length ≤ 100000) (L : Int) (B : Int × RxT → Option ((Int × RxT) ⊕ (RxT ⊕ RxT))) (hB : ∀ z1, B z1 = (bif (decide (z1.1 < (((List.length l) : Nat) : Int))) then (((Go.Lf.idx l z1.1)).bind fun r2 =>
       ((Go.Fn.folioref04_blank (((UInt8.toNat r2) : Nat) : Int))).bind fun r3 =>
       bif r3 then ((Go.Fn.folioref04_lexer__pause z1.2 L (Go.IntKind.wrap .i64 (z1.1 + (1 : Int))))).bind fun r4 =>
       some (.inl (z1.1, r4))
       else ((Go.Fn.folioref04_lexer__begin z1.2)).bind fun r5 =>
       bif (decide (((((UInt8.toNat r2) : Nat) : Int) : Int) = (92 : Int))) then (bif (!(decide ((((List.length l) : Nat) : Int) ≤ (Go.IntKind.wrap .i64 (z1.1 + (1 : Int)))))) then ((Go.Lf.idx l (Go.IntKind.wrap .i64 (z1.1 + (1 : Int))))).bind fun r6 =>
         ((Go.Fn.folioref04_special (((UInt8.toNat r6) : Nat) : Int))).bind fun r7 =>
         some ((!r7), r5)
         else some (true, r5)).bind fun r8 =>
       bif r8.1 then ((Go.Fn.folioref04_behind l (Go.IntKind.wrap .i64 (z1.1 + (1 : Int))))).bind fun r9 =>
       ((Go.Fn.folioref04_lexer__fail r8.2 (42 : Int) L (Go.IntKind.wrap .i64 (z1.1 + (1 : Int))) r9)).bind fun r10 =>
       some (.inr r10)
       else ((Go.Fn.folioref04_lexer__rest r8.2)).bind fun r11 =>
       ((Go.Lf.sub l (Go.IntKind.wrap .i64 (z1.1 + (1 : Int))) (Go.IntKind.wrap .i64 (z1.1 + (2 : Int))))).bind fun r12 =>
       ((Go.Fn.folioref04_lexer__put r11 r12 L (Go.IntKind.wrap .i64 (z1.1 + (1 : Int))))).bind fun r13 =>
       some (.inl ((Go.IntKind.wrap .i64 (z1.1 + (1 : Int))), r13))
       else bif (decide (((((UInt8.toNat r2) : Nat) : Int) : Int) = (123 : Int))) then ((Go.Fn.folioref04_letters l (Go.IntKind.wrap .i64 (z1.1 + (1 : Int))))).bind fun r14 =>
       (bif (!(decide (r14 < (1 : Int)))) then bif (!(decide ((12 : Int) < r14))) then bif (decide ((Go.IntKind.wrap .i64 ((Go.IntKind.wrap .i64 (z1.1 + (1 : Int))) + r14)) < (((List.length l) : Nat) : Int))) then ((Go.Lf.idx l (Go.IntKind.wrap .i64 ((Go.IntKind.wrap .i64 (z1.1 + (1 : Int))) + r14)))).bind fun r15 =>
         ((Go.Fn.folioref04_blank (((UInt8.toNat r15) : Nat) : Int))).bind fun r16 =>
         bif (!r16) then ((Go.Lf.idx l (Go.IntKind.wrap .i64 ((Go.IntKind.wrap .i64 (z1.1 + (1 : Int))) + r14)))).bind fun r17 =>
         bif (decide (((((UInt8.toNat r17) : Nat) : Int) : Int) ≠ (124 : Int))) then ((Go.Lf.idx l (Go.IntKind.wrap .i64 ((Go.IntKind.wrap .i64 (z1.1 + (1 : Int))) + r14)))).bind fun r18 =>
         some ((decide (((((UInt8.toNat r18) : Nat) : Int) : Int) ≠ (125 : Int))), r5)
         else some (false, r5)
         else some (false, r5)
         else some (false, r5)
         else some (true, r5)
         else some (true, r5)).bind fun r19 =>
       bif r19.1 then ((Go.Fn.folioref04_lexer__fail r19.2 (43 : Int) L (Go.IntKind.wrap .i64 (z1.1 + (1 : Int))) ([] : List (UInt8)))).bind fun r20 =>
       some (.inr r20)
       else bif (decide ((16 : Int) ≤ (((List.length r19.2.2.2.2.1) : Nat) : Int))) then ((Go.Lf.sub l (Go.IntKind.wrap .i64 (z1.1 + (1 : Int))) (Go.IntKind.wrap .i64 ((Go.IntKind.wrap .i64 (z1.1 + (1 : Int))) + r14)))).bind fun r21 =>
       ((Go.Fn.folioref04_lexer__fail r19.2 (46 : Int) L (Go.IntKind.wrap .i64 (z1.1 + (1 : Int))) r21)).bind fun r22 =>
       some (.inr r22)
       else ((Go.Lf.sub l (Go.IntKind.wrap .i64 (z1.1 + (1 : Int))) (Go.IntKind.wrap .i64 ((Go.IntKind.wrap .i64 (z1.1 + (1 : Int))) + r14)))).bind fun r23 =>
       ((Go.Fn.folioref04_lexer__mark r19.2 ((3 : Int), (r23, (([] : List (UInt8)), (L, ((Go.IntKind.wrap .i64 (z1.1 + (1 : Int))), ()))))))).bind fun r24 =>
       ((Go.Lf.idx r24.1 (Go.IntKind.wrap .i64 ((((List.length r24.1) : Nat) : Int) - (1 : Int))))).bind fun r25 =>
       ((Go.Lf.app (56 : Nat) r24.2.2.2.1 (r25 :: ([] : List Tok)))).bind fun r26 =>
       some (.inl ((Go.IntKind.wrap .i64 (z1.1 + r14)), (r24.1, (r24.2.1, (r24.2.2.1, (r26, (r24.2.2.2.2.1, (r24.2.2.2.2.2.1, (r24.2.2.2.2.2.2.1, (true, r24.2.2.2.2.2.2.2.2))))))))))
       else bif (decide (((((UInt8.toNat r2) : Nat) : Int) : Int) = (125 : Int))) then bif (decide (((((List.length r5.2.2.2.1) : Nat) : Int) : Int) = (0 : Int))) then ((Go.Fn.folioref04_lexer__fail r5 (44 : Int) L (Go.IntKind.wrap .i64 (z1.1 + (1 : Int))) ([] : List (UInt8)))).bind fun r27 =>
       some (.inr r27)
       else ((Go.Fn.folioref04_lexer__mark r5 ((5 : Int), (([] : List (UInt8)), (([] : List (UInt8)), (L, ((Go.IntKind.wrap .i64 (z1.1 + (1 : Int))), ()))))))).bind fun r28 =>
       ((Go.Lf.sub r28.2.2.2.1 (0 : Int) (Go.IntKind.wrap .i64 ((((List.length r28.2.2.2.1) : Nat) : Int) - (1 : Int))))).bind fun r29 =>
       some (.inl (z1.1, (r28.1, (r28.2.1, (r28.2.2.1, (r29, r28.2.2.2.2))))))
       else (bif (decide (((((UInt8.toNat r2) : Nat) : Int) : Int) = (124 : Int))) then some ((decide ((0 : Int) < (((List.length r5.2.2.2.1) : Nat) : Int))), r5)
         else some (false, r5)).bind fun r30 =>
       bif r30.1 then ((Go.Fn.folioref04_lexer__mark r30.2 ((4 : Int), (([] : List (UInt8)), (([] : List (UInt8)), (L, ((Go.IntKind.wrap .i64 (z1.1 + (1 : Int))), ()))))))).bind fun r31 =>
       some (.inl (z1.1, r31))
       else ((Go.Fn.folioref04_lexer__rest r30.2)).bind fun r32 =>
       ((Go.Lf.sub l z1.1 (Go.IntKind.wrap .i64 (z1.1 + (1 : Int))))).bind fun r33 =>
       ((Go.Fn.folioref04_lexer__put r32 r33 L (Go.IntKind.wrap .i64 (z1.1 + (1 : Int))))).bind fun r34 =>
       some (.inl (z1.1, r34)) : Option (((Int) × RxT) ⊕ RxT)).bind fun r35 =>
     Go.Lf.onSum r35 (fun a36 =>
     some (.inl ((Go.IntKind.wrap .i64 (a36.1 + (1 : Int))), a36.2))) (fun b37 =>
     some (.inr (.inr b37)))
     else some (.inr (.inl z1.2)))) : ∀ (m i n : Nat) (x : Lx) (p q : Bool), l.length ≤ i + m → i ≤ l.length → x.Ok n → n + 8 * (l.length - i) ≤ 80000000 → Md x p q → L = (x.line : Int) →
     (∃ (w : Wr) (p' q' : Bool) (x' : Lx), w.code ≠ 0 ∧ loopC B ((i : Int), rx p q x) = some (.inr (rxW (some w) p' q' x')) ∧ x'.Ok (n + 8 * (l.length - i)) ∧ textS 0 x (i + 1) (l.drop i) = .error w) ∨
     (∃ (y : Lx) (p' q' : Bool), loopC B ((i : Int), rx p q x) = some (.inl (rx p' q' y)) ∧ textS 0 x (i + 1) (l.drop i) = .ok (waitS y ((l.length + 1 : Nat) : Int)) ∧ y.Ok (n + 8 * (l.length - i)) ∧ Md y p' q' ∧ y.line = x.line ∧ (p' = false → p = false ∧ ∀ b ∈ l.drop i, blkB b = true))
  | m, i, n, x, p, q, hm, hi, h, hn, hmd, hL => by
    by_cases h0 : i < l.length
    · have hd : l.drop i = l[i] :: l.drop (i + 1) := List.drop_eq_getElem_cons h0
      have hT : textS 0 x (i + 1) (l.drop i) = match stepS x (i + 1) l[i] (l.drop (i + 1)) with | .error w => .error w | .ok p => textS p.1 p.2 (i + 1 + 1) (l.drop (i + 1)) := by rw [hd]; rfl
      rcases sign_eq h l i h0 hl (by omega) p q hmd L hL B hB with ⟨w, p', q', e1, e2, e3⟩ | ⟨k, y, p', q', e1, e2, e3, e4, e6, e5⟩
      · refine .inl ⟨w, p', q', x, e1, ?_, h.mono (by omega), by rw [hT, e2]⟩
        rw [loopC_step, e3]
        rfl
      · cases m with
        | zero => omega
        | succ m =>
        have hyl := step_line e1
        have hs : loopC B ((i : Int), rx p q x) = loopC B (((i + k + 1 : Nat) : Int), rx p' q' y) := by
          rw [loopC_step, e5]
          rfl
        have ht : textS 0 x (i + 1) (l.drop i) = textS 0 y (i + k + 1 + 1) (l.drop (i + k + 1)) := by
          rw [hT, e1]
          show textS k y (i + 1 + 1) (l.drop (i + 1)) = _
          rw [textS_skip k _ _ _ (by rw [List.length_drop]; omega), List.drop_drop]
          congr 1
          · omega
          · congr 1; omega
        rw [hs, ht]
        have ih := rtext_loop hl L B hB m (i + k + 1) (n + 8) y p' q' (by omega) (by omega) e3 (by omega) e4 (by rw [hyl]; exact hL)
        rcases ih with ⟨w, p2, q2, x2, f1, f2, f3, f4⟩ | ⟨z, p2, q2, f1, f2, f3, f4, f5, f6⟩
        · exact .inl ⟨w, p2, q2, x2, f1, f2, f3.mono (by omega), f4⟩
        · refine .inr ⟨z, p2, q2, f1, f2, f3.mono (by omega), f4, f5.trans hyl, fun e => ?_⟩
          obtain ⟨g1, g2⟩ := f6 e
          obtain ⟨g3, g4, g5⟩ := e6 g1
          subst g4
          refine ⟨g3, fun b hb => ?_⟩
          rw [hd] at hb
          rcases List.mem_cons.1 hb with rfl | hb
          · exact g5
          · exact g2 b hb
    · have h0' : ¬ (i : Int) < ((l.length : Nat) : Int) := by omega
      have he : i = l.length := by omega
      refine .inr ⟨x, p, q, ?_, ?_, h.mono (by omega), hmd, rfl, fun e => ⟨e, fun b hb => by rw [List.drop_eq_nil_of_le (by omega)] at hb; cases hb⟩⟩
      · rw [loopC_step, hB]
        simp only [h0', decide_false, cond_false, Option.bind_some]
      · subst he
        rw [List.drop_length, textS]
  termination_by m => m
end Go.Fn
open Go Go.Lf
set_option maxRecDepth 10000
namespace Go.Fn
def Tys2 : List (Nat × Go.Lf.TyI) := [(2, ⟨(.int .i64), 0, 0⟩),
 (3, ⟨(.int .i64), 0, 0⟩),
 (4, ⟨.bool, 0, 0⟩),
 (5, ⟨(.int .u8), 0, 0⟩),
 (6, ⟨(.int .u8), 0, 0⟩),
 (7, ⟨(.st (.pr (.int .i64) (.pr (.int .i64) (.pr .bool (.pr (.int .u8) .unit))))), 0, 0⟩),
 (8, ⟨(.st (.pr (.int .i64) (.pr (.int .i64) (.pr .bool (.pr (.int .u8) .unit))))), 0, 0⟩),
 (9, ⟨.str, 0, 0⟩),
 (10, ⟨.str, 0, 0⟩),
 (11, ⟨.str, 0, 0⟩),
 (12, ⟨(.int .u64), 0, 0⟩),
 (13, ⟨(.st (.pr .str (.pr (.int .u64) .unit))), 0, 0⟩),
 (14, ⟨(.st (.pr .str (.pr (.int .u64) .unit))), 0, 0⟩),
 (21, ⟨(.int .i32), 0, 0⟩),
 (22, ⟨(.sl (.st (.pr (.int .i64) (.pr .str (.pr .str (.pr (.int .i64) (.pr (.int .i64) .unit))))))), 40, 56⟩),
 (24, ⟨(.eb 80 (.st (.pr (.int .i64) (.pr (.st (.pr (.int .i64) (.pr (.int .i64) (.pr (.int .i64) (.pr (.int .i64) (.pr .str (.pr (.sl (.st (.pr .str (.pr (.int .i64) .unit)))) .unit))))))) .unit)))), 0, 0⟩),
 (27, ⟨(.st (.pr (.int .i64) (.pr (.int .i64) (.pr (.int .i64) (.pr .str .unit))))), 0, 0⟩),
 (28, ⟨(.st (.pr (.int .i64) (.pr (.int .i64) (.pr (.int .i64) (.pr .str .unit))))), 0, 0⟩),
 (36, ⟨(.int .i64), 0, 0⟩),
 (38, ⟨(.sl (.st (.pr .str (.pr (.int .i64) (.pr (.int .i64) .unit))))), 66, 32⟩),
 (39, ⟨(.st (.pr (.int .i64) (.pr .str (.pr .str (.pr (.int .i64) (.pr (.int .i64) .unit)))))), 0, 0⟩),
 (40, ⟨(.st (.pr (.int .i64) (.pr .str (.pr .str (.pr (.int .i64) (.pr (.int .i64) .unit)))))), 0, 0⟩),
 (41, ⟨(.st (.pr (.int .i64) (.pr (.int .i64) .unit))), 3, 2⟩),
 (42, ⟨(.st (.pr (.sl (.st (.pr (.int .i64) (.pr .str (.pr .str (.pr (.int .i64) (.pr (.int .i64) .unit))))))) (.pr (.sl (.st (.pr .str (.pr (.int .i64) (.pr (.int .i64) .unit))))) (.pr (.int .i64) (.pr (.st (.pr (.int .i64) (.pr .str (.pr .str (.pr (.int .i64) (.pr (.int .i64) .unit)))))) (.pr (.st (.pr (.int .i64) (.pr (.int .i64) .unit))) (.pr (.int .i64) (.pr (.int .i64) .unit)))))))), 0, 0⟩),
 (43, ⟨(.st (.pr (.sl (.st (.pr (.int .i64) (.pr .str (.pr .str (.pr (.int .i64) (.pr (.int .i64) .unit))))))) (.pr (.sl (.st (.pr .str (.pr (.int .i64) (.pr (.int .i64) .unit))))) (.pr (.int .i64) (.pr (.st (.pr (.int .i64) (.pr .str (.pr .str (.pr (.int .i64) (.pr (.int .i64) .unit)))))) (.pr (.st (.pr (.int .i64) (.pr (.int .i64) .unit))) (.pr (.int .i64) (.pr (.int .i64) .unit)))))))), 0, 0⟩),
 (50, ⟨(.sl (.int .u8)), 5, 1⟩),
 (51, ⟨(.st (.pr (.sl (.st (.pr (.int .i64) (.pr .str (.pr .str (.pr (.int .i64) (.pr (.int .i64) .unit))))))) (.pr (.st (.pr (.int .i64) (.pr (.int .i64) (.pr (.int .i64) (.pr .str .unit))))) (.pr .bool (.pr (.sl (.st (.pr (.int .i64) (.pr .str (.pr .str (.pr (.int .i64) (.pr (.int .i64) .unit))))))) (.pr (.st (.pr (.int .i64) (.pr .str (.pr .str (.pr (.int .i64) (.pr (.int .i64) .unit)))))) (.pr (.sl (.int .u8)) (.pr (.st (.pr (.int .i64) (.pr .str (.pr .str (.pr (.int .i64) (.pr (.int .i64) .unit)))))) (.pr .bool .unit))))))))), 0, 0⟩),
 (52, ⟨(.st (.pr (.sl (.st (.pr (.int .i64) (.pr .str (.pr .str (.pr (.int .i64) (.pr (.int .i64) .unit))))))) (.pr (.st (.pr (.int .i64) (.pr (.int .i64) (.pr (.int .i64) (.pr .str .unit))))) (.pr .bool (.pr (.sl (.st (.pr (.int .i64) (.pr .str (.pr .str (.pr (.int .i64) (.pr (.int .i64) .unit))))))) (.pr (.st (.pr (.int .i64) (.pr .str (.pr .str (.pr (.int .i64) (.pr (.int .i64) .unit)))))) (.pr (.sl (.int .u8)) (.pr (.st (.pr (.int .i64) (.pr .str (.pr .str (.pr (.int .i64) (.pr (.int .i64) .unit)))))) (.pr .bool .unit))))))))), 0, 0⟩),
 (53, ⟨(.sl .str), 9, 16⟩),
 (56, ⟨(.sl (.st (.pr .str (.pr (.int .i64) .unit)))), 109, 24⟩),
 (57, ⟨(.st (.pr (.int .i64) (.pr (.int .i64) (.pr (.int .i64) (.pr (.int .i64) (.pr .str (.pr (.sl (.st (.pr .str (.pr (.int .i64) .unit)))) .unit))))))), 0, 0⟩),
 (58, ⟨(.st (.pr (.int .i64) (.pr (.int .i64) (.pr (.int .i64) (.pr (.int .i64) (.pr .str (.pr (.sl (.st (.pr .str (.pr (.int .i64) .unit)))) .unit))))))), 0, 0⟩),
 (60, ⟨(.sl (.st (.pr (.int .i64) (.pr (.int .i64) (.pr (.int .i64) (.pr (.int .i64) (.pr .str (.pr (.sl (.st (.pr .str (.pr (.int .i64) .unit)))) .unit)))))))), 58, 72⟩),
 (65, ⟨(.st (.pr .str (.pr (.int .i64) (.pr (.int .i64) .unit)))), 0, 0⟩),
 (66, ⟨(.st (.pr .str (.pr (.int .i64) (.pr (.int .i64) .unit)))), 0, 0⟩),
 (71, ⟨(.st (.pr (.int .i64) (.pr (.int .i64) (.pr (.sl (.st (.pr .str (.pr (.int .i64) .unit)))) .unit)))), 0, 0⟩),
 (72, ⟨(.st (.pr (.int .i64) (.pr (.int .i64) (.pr (.sl (.st (.pr .str (.pr (.int .i64) .unit)))) .unit)))), 0, 0⟩),
 (81, ⟨(.st (.pr (.int .i64) (.pr (.st (.pr (.int .i64) (.pr (.int .i64) (.pr (.int .i64) (.pr (.int .i64) (.pr .str (.pr (.sl (.st (.pr .str (.pr (.int .i64) .unit)))) .unit))))))) .unit))), 0, 0⟩),
 (82, ⟨(.st (.pr (.int .i64) (.pr (.st (.pr (.int .i64) (.pr (.int .i64) (.pr (.int .i64) (.pr (.int .i64) (.pr .str (.pr (.sl (.st (.pr .str (.pr (.int .i64) .unit)))) .unit))))))) .unit))), 0, 0⟩),
 (97, ⟨(.sl (.st (.pr (.int .i32) (.pr (.int .i64) (.pr (.int .i64) (.pr .bool .unit)))))), 100, 32⟩),
 (99, ⟨(.st (.pr (.int .i32) (.pr (.int .i64) (.pr (.int .i64) (.pr .bool .unit))))), 0, 0⟩),
 (100, ⟨(.st (.pr (.int .i32) (.pr (.int .i64) (.pr (.int .i64) (.pr .bool .unit))))), 0, 0⟩),
 (108, ⟨(.st (.pr .str (.pr (.int .i64) .unit))), 0, 0⟩),
 (109, ⟨(.st (.pr .str (.pr (.int .i64) .unit))), 0, 0⟩),
 (110, ⟨(.st (.pr (.st (.pr .str (.pr (.int .i64) .unit))) (.pr (.eb 80 (.st (.pr (.int .i64) (.pr (.st (.pr (.int .i64) (.pr (.int .i64) (.pr (.int .i64) (.pr (.int .i64) (.pr .str (.pr (.sl (.st (.pr .str (.pr (.int .i64) .unit)))) .unit))))))) .unit)))) .unit))), 0, 0⟩),
 (111, ⟨(.st (.pr (.st (.pr .str (.pr (.int .i64) .unit))) (.pr (.eb 80 (.st (.pr (.int .i64) (.pr (.st (.pr (.int .i64) (.pr (.int .i64) (.pr (.int .i64) (.pr (.int .i64) (.pr .str (.pr (.sl (.st (.pr .str (.pr (.int .i64) .unit)))) .unit))))))) .unit)))) .unit))), 0, 0⟩),
 (113, ⟨(.st (.pr (.int .i64) (.pr (.eb 80 (.st (.pr (.int .i64) (.pr (.st (.pr (.int .i64) (.pr (.int .i64) (.pr (.int .i64) (.pr (.int .i64) (.pr .str (.pr (.sl (.st (.pr .str (.pr (.int .i64) .unit)))) .unit))))))) .unit)))) .unit))), 0, 0⟩),
 (114, ⟨(.st (.pr (.int .i64) (.pr (.eb 80 (.st (.pr (.int .i64) (.pr (.st (.pr (.int .i64) (.pr (.int .i64) (.pr (.int .i64) (.pr (.int .i64) (.pr .str (.pr (.sl (.st (.pr .str (.pr (.int .i64) .unit)))) .unit))))))) .unit)))) .unit))), 0, 0⟩),
 (119, ⟨(.sl (.eb 80 (.st (.pr (.int .i64) (.pr (.st (.pr (.int .i64) (.pr (.int .i64) (.pr (.int .i64) (.pr (.int .i64) (.pr .str (.pr (.sl (.st (.pr .str (.pr (.int .i64) .unit)))) .unit))))))) .unit))))), 24, 16⟩),
 (123, ⟨(.int .u64), 0, 0⟩),
 (132, ⟨(.int .u32), 0, 0⟩),
 (138, ⟨(.st (.pr (.int .u8) (.pr (.int .u8) .unit))), 0, 0⟩),
 (140, ⟨(.st (.pr (.st (.pr (.int .u8) (.pr (.int .u8) .unit))) (.pr (.st (.pr (.int .u8) (.pr (.int .u8) .unit))) (.pr (.st (.pr (.int .u8) (.pr (.int .u8) .unit))) (.pr (.st (.pr (.int .u8) (.pr (.int .u8) .unit))) (.pr (.st (.pr (.int .u8) (.pr (.int .u8) .unit))) (.pr (.st (.pr (.int .u8) (.pr (.int .u8) .unit))) (.pr (.st (.pr (.int .u8) (.pr (.int .u8) .unit))) (.pr (.st (.pr (.int .u8) (.pr (.int .u8) .unit))) (.pr (.st (.pr (.int .u8) (.pr (.int .u8) .unit))) (.pr (.st (.pr (.int .u8) (.pr (.int .u8) .unit))) (.pr (.st (.pr (.int .u8) (.pr (.int .u8) .unit))) (.pr (.st (.pr (.int .u8) (.pr (.int .u8) .unit))) (.pr (.st (.pr (.int .u8) (.pr (.int .u8) .unit))) (.pr (.st (.pr (.int .u8) (.pr (.int .u8) .unit))) (.pr (.st (.pr (.int .u8) (.pr (.int .u8) .unit))) (.pr (.st (.pr (.int .u8) (.pr (.int .u8) .unit))) .unit))))))))))))))))), 139, 16⟩),
 (148, ⟨(.int .u8), 0, 0⟩),
 (149, ⟨(.int .u8), 0, 0⟩),
 (151, ⟨(.int .i32), 0, 0⟩),
 (80, ⟨(.ptr (.st (.pr (.int .i64) (.pr (.st (.pr (.int .i64) (.pr (.int .i64) (.pr (.int .i64) (.pr (.int .i64) (.pr .str (.pr (.sl (.st (.pr .str (.pr (.int .i64) .unit)))) .unit))))))) .unit)))), 0, 0⟩),
 (107, ⟨(.ptr .unit), 0, 0⟩),
 (112, ⟨(.ptr .unit), 0, 0⟩),
 (116, ⟨(.eb 80 (.st (.pr (.int .i64) (.pr (.st (.pr (.int .i64) (.pr (.int .i64) (.pr (.int .i64) (.pr (.int .i64) (.pr .str (.pr (.sl (.st (.pr .str (.pr (.int .i64) .unit)))) .unit))))))) .unit)))), 0, 0⟩),
 (118, ⟨(.eb 80 (.st (.pr (.int .i64) (.pr (.st (.pr (.int .i64) (.pr (.int .i64) (.pr (.int .i64) (.pr (.int .i64) (.pr .str (.pr (.sl (.st (.pr .str (.pr (.int .i64) .unit)))) .unit))))))) .unit)))), 0, 0⟩)]
theorem Tys2_ok : ∀ id i, Go.Lf.look Tys2 id = some i → Go.Lf.TyOk Go.Proofs.Tryz.prog id i := Go.Lf.tysB_ok (by kernel_rfl)
noncomputable def folioref04_lexer__textCtx : Go.Lf.Ctx := ⟨251, Tys2, [folioref04_lexer__failEnt, folioref04_blankEnt, folioref04_lettersEnt, folioref04_lexer__pauseEnt, folioref04_lexer__beginEnt, folioref04_specialEnt, folioref04_behindEnt, folioref04_lexer__restEnt, folioref04_lexer__putEnt, folioref04_lexer__markEnt], [225, 218], [], [(218, (.rw 40 (.st (.pr (.int .i64) (.pr .str (.pr .str (.pr (.int .i64) (.pr (.int .i64) .unit))))))))]⟩
noncomputable def folioref04_lexer__textCode : Go.Code := (Go.Proofs.Tryz.f33.body).getD .skip
def folioref04_lexer__textAnn : Go.Lf.Ann := (.seq (.seq .no (.loop ⟨[2, 1], [(0, 0, [], 0)], [(6, (.int .i64))], [(0, 52, (.st (.pr (.rw 40 (.st (.pr (.int .i64) (.pr .str (.pr .str (.pr (.int .i64) (.pr (.int .i64) .unit))))))) (.pr (.st (.pr (.int .i64) (.pr (.int .i64) (.pr (.int .i64) (.pr .str .unit))))) (.pr .bool (.pr (.mr 40 (.st (.pr (.int .i64) (.pr .str (.pr .str (.pr (.int .i64) (.pr (.int .i64) .unit))))))) (.pr (.st (.pr (.int .i64) (.pr .str (.pr .str (.pr (.int .i64) (.pr (.int .i64) .unit)))))) (.pr (.rw 5 (.int .u8)) (.pr (.st (.pr (.int .i64) (.pr .str (.pr .str (.pr (.int .i64) (.pr (.int .i64) .unit)))))) (.pr .bool .unit))))))))))]⟩ (.more (.ext 0) ⟨[1, 2], [(0, 0, [], 0)], [], [(0, 52, (.st (.pr (.rw 40 (.st (.pr (.int .i64) (.pr .str (.pr .str (.pr (.int .i64) (.pr (.int .i64) .unit))))))) (.pr (.st (.pr (.int .i64) (.pr (.int .i64) (.pr (.int .i64) (.pr .str .unit))))) (.pr .bool (.pr (.mr 40 (.st (.pr (.int .i64) (.pr .str (.pr .str (.pr (.int .i64) (.pr (.int .i64) .unit))))))) (.pr (.st (.pr (.int .i64) (.pr .str (.pr .str (.pr (.int .i64) (.pr (.int .i64) .unit)))))) (.pr (.rw 5 (.int .u8)) (.pr (.st (.pr (.int .i64) (.pr .str (.pr .str (.pr (.int .i64) (.pr (.int .i64) .unit)))))) (.pr .bool .unit))))))))))]⟩ (.one .ret ⟨[], [(0, 0, [], 0)], [], [(0, 52, (.st (.pr (.rw 40 (.st (.pr (.int .i64) (.pr .str (.pr .str (.pr (.int .i64) (.pr (.int .i64) .unit))))))) (.pr (.st (.pr (.int .i64) (.pr (.int .i64) (.pr (.int .i64) (.pr .str .unit))))) (.pr .bool (.pr (.mr 40 (.st (.pr (.int .i64) (.pr .str (.pr .str (.pr (.int .i64) (.pr (.int .i64) .unit))))))) (.pr (.st (.pr (.int .i64) (.pr .str (.pr .str (.pr (.int .i64) (.pr (.int .i64) .unit)))))) (.pr (.rw 5 (.int .u8)) (.pr (.st (.pr (.int .i64) (.pr .str (.pr .str (.pr (.int .i64) (.pr (.int .i64) .unit)))))) (.pr .bool .unit))))))))))]⟩)) (.seq .no (.seq (.join (.more .nrm ⟨[2, 1], [(0, 0, [], 0)], [(6, (.int .i64))], [(0, 52, (.st (.pr (.rw 40 (.st (.pr (.int .i64) (.pr .str (.pr .str (.pr (.int .i64) (.pr (.int .i64) .unit))))))) (.pr (.st (.pr (.int .i64) (.pr (.int .i64) (.pr (.int .i64) (.pr .str .unit))))) (.pr .bool (.pr (.mr 40 (.st (.pr (.int .i64) (.pr .str (.pr .str (.pr (.int .i64) (.pr (.int .i64) .unit))))))) (.pr (.st (.pr (.int .i64) (.pr .str (.pr .str (.pr (.int .i64) (.pr (.int .i64) .unit)))))) (.pr (.rw 5 (.int .u8)) (.pr (.st (.pr (.int .i64) (.pr .str (.pr .str (.pr (.int .i64) (.pr (.int .i64) .unit)))))) (.pr .bool .unit))))))))))]⟩ (.one .ret ⟨[], [(0, 0, [], 0)], [], [(0, 52, (.st (.pr (.rw 40 (.st (.pr (.int .i64) (.pr .str (.pr .str (.pr (.int .i64) (.pr (.int .i64) .unit))))))) (.pr (.st (.pr (.int .i64) (.pr (.int .i64) (.pr (.int .i64) (.pr .str .unit))))) (.pr .bool (.pr (.mr 40 (.st (.pr (.int .i64) (.pr .str (.pr .str (.pr (.int .i64) (.pr (.int .i64) .unit))))))) (.pr (.st (.pr (.int .i64) (.pr .str (.pr .str (.pr (.int .i64) (.pr (.int .i64) .unit)))))) (.pr (.rw 5 (.int .u8)) (.pr (.st (.pr (.int .i64) (.pr .str (.pr .str (.pr (.int .i64) (.pr (.int .i64) .unit)))))) (.pr .bool .unit))))))))))]⟩)) (.seq .no (.seq .no (.seq .no (.seq .no (.cnd (.seq (.seq (.join (.one .nrm ⟨[6, 1, 2], [(0, 0, [], 0)], [(54, .bool)], [(0, 52, (.st (.pr (.rw 40 (.st (.pr (.int .i64) (.pr .str (.pr .str (.pr (.int .i64) (.pr (.int .i64) .unit))))))) (.pr (.st (.pr (.int .i64) (.pr (.int .i64) (.pr (.int .i64) (.pr .str .unit))))) (.pr .bool (.pr (.mr 40 (.st (.pr (.int .i64) (.pr .str (.pr .str (.pr (.int .i64) (.pr (.int .i64) .unit))))))) (.pr (.st (.pr (.int .i64) (.pr .str (.pr .str (.pr (.int .i64) (.pr (.int .i64) .unit)))))) (.pr (.rw 5 (.int .u8)) (.pr (.st (.pr (.int .i64) (.pr .str (.pr .str (.pr (.int .i64) (.pr (.int .i64) .unit)))))) (.pr .bool .unit))))))))))]⟩) .no) .no) .no) (.seq .no (.cnd (.seq .no (.seq (.seq (.join (.one .nrm ⟨[6, 2, 8, 1], [(0, 0, [], 0)], [(128, .bool)], [(0, 52, (.st (.pr (.rw 40 (.st (.pr (.int .i64) (.pr .str (.pr .str (.pr (.int .i64) (.pr (.int .i64) .unit))))))) (.pr (.st (.pr (.int .i64) (.pr (.int .i64) (.pr (.int .i64) (.pr .str .unit))))) (.pr .bool (.pr (.mr 40 (.st (.pr (.int .i64) (.pr .str (.pr .str (.pr (.int .i64) (.pr (.int .i64) .unit))))))) (.pr (.st (.pr (.int .i64) (.pr .str (.pr .str (.pr (.int .i64) (.pr (.int .i64) .unit)))))) (.pr (.rw 5 (.int .u8)) (.pr (.st (.pr (.int .i64) (.pr .str (.pr .str (.pr (.int .i64) (.pr (.int .i64) .unit)))))) (.pr .bool .unit))))))))))]⟩) .no) .no) (.seq .no (.seq .no (.seq (.soup 18) .no))))) (.seq .no (.cnd (.seq .no (.seq .no (.soup 11))) (.seq (.join (.one .nrm ⟨[2, 1, 6], [(0, 0, [], 0)], [(228, .bool)], [(0, 52, (.st (.pr (.rw 40 (.st (.pr (.int .i64) (.pr .str (.pr .str (.pr (.int .i64) (.pr (.int .i64) .unit))))))) (.pr (.st (.pr (.int .i64) (.pr (.int .i64) (.pr (.int .i64) (.pr .str .unit))))) (.pr .bool (.pr (.mr 40 (.st (.pr (.int .i64) (.pr .str (.pr .str (.pr (.int .i64) (.pr (.int .i64) .unit))))))) (.pr (.st (.pr (.int .i64) (.pr .str (.pr .str (.pr (.int .i64) (.pr (.int .i64) .unit)))))) (.pr (.rw 5 (.int .u8)) (.pr (.st (.pr (.int .i64) (.pr .str (.pr .str (.pr (.int .i64) (.pr (.int .i64) .unit)))))) (.pr .bool .unit))))))))))]⟩) .no) .no))))))))))) .no)))) .no)
noncomputable def folioref04_lexer__text (a0 : (List ((Int) × ((List (UInt8)) × ((List (UInt8)) × ((Int) × ((Int) × (Unit))))))) × (((Int) × ((Int) × ((Int) × ((List (UInt8)) × (Unit))))) × ((Bool) × ((List ((Int) × ((List (UInt8)) × ((List (UInt8)) × ((Int) × ((Int) × (Unit))))))) × (((Int) × ((List (UInt8)) × ((List (UInt8)) × ((Int) × ((Int) × (Unit)))))) × ((List (Int)) × (((Int) × ((List (UInt8)) × ((List (UInt8)) × ((Int) × ((Int) × (Unit)))))) × ((Bool) × (Unit))))))))) (a1 : List (UInt8)) (a2 : Int) : Option ((List ((Int) × ((List (UInt8)) × ((List (UInt8)) × ((Int) × ((Int) × (Unit))))))) × (((Int) × ((Int) × ((Int) × ((List (UInt8)) × (Unit))))) × ((Bool) × ((List ((Int) × ((List (UInt8)) × ((List (UInt8)) × ((Int) × ((Int) × (Unit))))))) × (((Int) × ((List (UInt8)) × ((List (UInt8)) × ((Int) × ((Int) × (Unit)))))) × ((List (Int)) × (((Int) × ((List (UInt8)) × ((List (UInt8)) × ((Int) × ((Int) × (Unit)))))) × ((Bool) × (Unit))))))))) :=
 (Go.Lf.loopC (σ := (Int) × ((List ((Int) × ((List (UInt8)) × ((List (UInt8)) × ((Int) × ((Int) × (Unit))))))) × (((Int) × ((Int) × ((Int) × ((List (UInt8)) × (Unit))))) × ((Bool) × ((List ((Int) × ((List (UInt8)) × ((List (UInt8)) × ((Int) × ((Int) × (Unit))))))) × (((Int) × ((List (UInt8)) × ((List (UInt8)) × ((Int) × ((Int) × (Unit)))))) × ((List (Int)) × (((Int) × ((List (UInt8)) × ((List (UInt8)) × ((Int) × ((Int) × (Unit)))))) × ((Bool) × (Unit)))))))))) (κ := ((List ((Int) × ((List (UInt8)) × ((List (UInt8)) × ((Int) × ((Int) × (Unit))))))) × (((Int) × ((Int) × ((Int) × ((List (UInt8)) × (Unit))))) × ((Bool) × ((List ((Int) × ((List (UInt8)) × ((List (UInt8)) × ((Int) × ((Int) × (Unit))))))) × (((Int) × ((List (UInt8)) × ((List (UInt8)) × ((Int) × ((Int) × (Unit)))))) × ((List (Int)) × (((Int) × ((List (UInt8)) × ((List (UInt8)) × ((Int) × ((Int) × (Unit)))))) × ((Bool) × (Unit))))))))) ⊕ ((List ((Int) × ((List (UInt8)) × ((List (UInt8)) × ((Int) × ((Int) × (Unit))))))) × (((Int) × ((Int) × ((Int) × ((List (UInt8)) × (Unit))))) × ((Bool) × ((List ((Int) × ((List (UInt8)) × ((List (UInt8)) × ((Int) × ((Int) × (Unit))))))) × (((Int) × ((List (UInt8)) × ((List (UInt8)) × ((Int) × ((Int) × (Unit)))))) × ((List (Int)) × (((Int) × ((List (UInt8)) × ((List (UInt8)) × ((Int) × ((Int) × (Unit)))))) × ((Bool) × (Unit)))))))))) (fun z1 =>
     bif (decide (z1.1 < (((List.length a1) : Nat) : Int))) then (((Go.Lf.idx a1 z1.1)).bind fun r2 =>
       ((Go.Fn.folioref04_blank (((UInt8.toNat r2) : Nat) : Int))).bind fun r3 =>
       bif r3 then ((Go.Fn.folioref04_lexer__pause z1.2 a2 (Go.IntKind.wrap .i64 (z1.1 + (1 : Int))))).bind fun r4 =>
       some (.inl (z1.1, r4))
       else ((Go.Fn.folioref04_lexer__begin z1.2)).bind fun r5 =>
       bif (decide (((((UInt8.toNat r2) : Nat) : Int) : Int) = (92 : Int))) then (bif (!(decide ((((List.length a1) : Nat) : Int) ≤ (Go.IntKind.wrap .i64 (z1.1 + (1 : Int)))))) then ((Go.Lf.idx a1 (Go.IntKind.wrap .i64 (z1.1 + (1 : Int))))).bind fun r6 =>
         ((Go.Fn.folioref04_special (((UInt8.toNat r6) : Nat) : Int))).bind fun r7 =>
         some ((!r7), r5)
         else some (true, r5)).bind fun r8 =>
       bif r8.1 then ((Go.Fn.folioref04_behind a1 (Go.IntKind.wrap .i64 (z1.1 + (1 : Int))))).bind fun r9 =>
       ((Go.Fn.folioref04_lexer__fail r8.2 (42 : Int) a2 (Go.IntKind.wrap .i64 (z1.1 + (1 : Int))) r9)).bind fun r10 =>
       some (.inr r10)
       else ((Go.Fn.folioref04_lexer__rest r8.2)).bind fun r11 =>
       ((Go.Lf.sub a1 (Go.IntKind.wrap .i64 (z1.1 + (1 : Int))) (Go.IntKind.wrap .i64 (z1.1 + (2 : Int))))).bind fun r12 =>
       ((Go.Fn.folioref04_lexer__put r11 r12 a2 (Go.IntKind.wrap .i64 (z1.1 + (1 : Int))))).bind fun r13 =>
       some (.inl ((Go.IntKind.wrap .i64 (z1.1 + (1 : Int))), r13))
       else bif (decide (((((UInt8.toNat r2) : Nat) : Int) : Int) = (123 : Int))) then ((Go.Fn.folioref04_letters a1 (Go.IntKind.wrap .i64 (z1.1 + (1 : Int))))).bind fun r14 =>
       (bif (!(decide (r14 < (1 : Int)))) then bif (!(decide ((12 : Int) < r14))) then bif (decide ((Go.IntKind.wrap .i64 ((Go.IntKind.wrap .i64 (z1.1 + (1 : Int))) + r14)) < (((List.length a1) : Nat) : Int))) then ((Go.Lf.idx a1 (Go.IntKind.wrap .i64 ((Go.IntKind.wrap .i64 (z1.1 + (1 : Int))) + r14)))).bind fun r15 =>
         ((Go.Fn.folioref04_blank (((UInt8.toNat r15) : Nat) : Int))).bind fun r16 =>
         bif (!r16) then ((Go.Lf.idx a1 (Go.IntKind.wrap .i64 ((Go.IntKind.wrap .i64 (z1.1 + (1 : Int))) + r14)))).bind fun r17 =>
         bif (decide (((((UInt8.toNat r17) : Nat) : Int) : Int) ≠ (124 : Int))) then ((Go.Lf.idx a1 (Go.IntKind.wrap .i64 ((Go.IntKind.wrap .i64 (z1.1 + (1 : Int))) + r14)))).bind fun r18 =>
         some ((decide (((((UInt8.toNat r18) : Nat) : Int) : Int) ≠ (125 : Int))), r5)
         else some (false, r5)
         else some (false, r5)
         else some (false, r5)
         else some (true, r5)
         else some (true, r5)).bind fun r19 =>
       bif r19.1 then ((Go.Fn.folioref04_lexer__fail r19.2 (43 : Int) a2 (Go.IntKind.wrap .i64 (z1.1 + (1 : Int))) ([] : List (UInt8)))).bind fun r20 =>
       some (.inr r20)
       else bif (decide ((16 : Int) ≤ (((List.length r19.2.2.2.2.1) : Nat) : Int))) then ((Go.Lf.sub a1 (Go.IntKind.wrap .i64 (z1.1 + (1 : Int))) (Go.IntKind.wrap .i64 ((Go.IntKind.wrap .i64 (z1.1 + (1 : Int))) + r14)))).bind fun r21 =>
       ((Go.Fn.folioref04_lexer__fail r19.2 (46 : Int) a2 (Go.IntKind.wrap .i64 (z1.1 + (1 : Int))) r21)).bind fun r22 =>
       some (.inr r22)
       else ((Go.Lf.sub a1 (Go.IntKind.wrap .i64 (z1.1 + (1 : Int))) (Go.IntKind.wrap .i64 ((Go.IntKind.wrap .i64 (z1.1 + (1 : Int))) + r14)))).bind fun r23 =>
       ((Go.Fn.folioref04_lexer__mark r19.2 ((3 : Int), (r23, (([] : List (UInt8)), (a2, ((Go.IntKind.wrap .i64 (z1.1 + (1 : Int))), ()))))))).bind fun r24 =>
       ((Go.Lf.idx r24.1 (Go.IntKind.wrap .i64 ((((List.length r24.1) : Nat) : Int) - (1 : Int))))).bind fun r25 =>
       ((Go.Lf.app (56 : Nat) r24.2.2.2.1 (r25 :: ([] : List ((Int) × ((List (UInt8)) × ((List (UInt8)) × ((Int) × ((Int) × (Unit)))))))))).bind fun r26 =>
       some (.inl ((Go.IntKind.wrap .i64 (z1.1 + r14)), (r24.1, (r24.2.1, (r24.2.2.1, (r26, (r24.2.2.2.2.1, (r24.2.2.2.2.2.1, (r24.2.2.2.2.2.2.1, (true, r24.2.2.2.2.2.2.2.2))))))))))
       else bif (decide (((((UInt8.toNat r2) : Nat) : Int) : Int) = (125 : Int))) then bif (decide (((((List.length r5.2.2.2.1) : Nat) : Int) : Int) = (0 : Int))) then ((Go.Fn.folioref04_lexer__fail r5 (44 : Int) a2 (Go.IntKind.wrap .i64 (z1.1 + (1 : Int))) ([] : List (UInt8)))).bind fun r27 =>
       some (.inr r27)
       else ((Go.Fn.folioref04_lexer__mark r5 ((5 : Int), (([] : List (UInt8)), (([] : List (UInt8)), (a2, ((Go.IntKind.wrap .i64 (z1.1 + (1 : Int))), ()))))))).bind fun r28 =>
       ((Go.Lf.sub r28.2.2.2.1 (0 : Int) (Go.IntKind.wrap .i64 ((((List.length r28.2.2.2.1) : Nat) : Int) - (1 : Int))))).bind fun r29 =>
       some (.inl (z1.1, (r28.1, (r28.2.1, (r28.2.2.1, (r29, r28.2.2.2.2))))))
       else (bif (decide (((((UInt8.toNat r2) : Nat) : Int) : Int) = (124 : Int))) then some ((decide ((0 : Int) < (((List.length r5.2.2.2.1) : Nat) : Int))), r5)
         else some (false, r5)).bind fun r30 =>
       bif r30.1 then ((Go.Fn.folioref04_lexer__mark r30.2 ((4 : Int), (([] : List (UInt8)), (([] : List (UInt8)), (a2, ((Go.IntKind.wrap .i64 (z1.1 + (1 : Int))), ()))))))).bind fun r31 =>
       some (.inl (z1.1, r31))
       else ((Go.Fn.folioref04_lexer__rest r30.2)).bind fun r32 =>
       ((Go.Lf.sub a1 z1.1 (Go.IntKind.wrap .i64 (z1.1 + (1 : Int))))).bind fun r33 =>
       ((Go.Fn.folioref04_lexer__put r32 r33 a2 (Go.IntKind.wrap .i64 (z1.1 + (1 : Int))))).bind fun r34 =>
       some (.inl (z1.1, r34)) : Option (((Int) × ((List ((Int) × ((List (UInt8)) × ((List (UInt8)) × ((Int) × ((Int) × (Unit))))))) × (((Int) × ((Int) × ((Int) × ((List (UInt8)) × (Unit))))) × ((Bool) × ((List ((Int) × ((List (UInt8)) × ((List (UInt8)) × ((Int) × ((Int) × (Unit))))))) × (((Int) × ((List (UInt8)) × ((List (UInt8)) × ((Int) × ((Int) × (Unit)))))) × ((List (Int)) × (((Int) × ((List (UInt8)) × ((List (UInt8)) × ((Int) × ((Int) × (Unit)))))) × ((Bool) × (Unit)))))))))) ⊕ ((List ((Int) × ((List (UInt8)) × ((List (UInt8)) × ((Int) × ((Int) × (Unit))))))) × (((Int) × ((Int) × ((Int) × ((List (UInt8)) × (Unit))))) × ((Bool) × ((List ((Int) × ((List (UInt8)) × ((List (UInt8)) × ((Int) × ((Int) × (Unit))))))) × (((Int) × ((List (UInt8)) × ((List (UInt8)) × ((Int) × ((Int) × (Unit)))))) × ((List (Int)) × (((Int) × ((List (UInt8)) × ((List (UInt8)) × ((Int) × ((Int) × (Unit)))))) × ((Bool) × (Unit))))))))))).bind fun r35 =>
     Go.Lf.onSum r35 (fun a36 =>
     some (.inl ((Go.IntKind.wrap .i64 (a36.1 + (1 : Int))), a36.2))) (fun b37 =>
     some (.inr (.inr b37)))
     else some (.inr (.inl z1.2))) ((0 : Int), a0) : Option (((List ((Int) × ((List (UInt8)) × ((List (UInt8)) × ((Int) × ((Int) × (Unit))))))) × (((Int) × ((Int) × ((Int) × ((List (UInt8)) × (Unit))))) × ((Bool) × ((List ((Int) × ((List (UInt8)) × ((List (UInt8)) × ((Int) × ((Int) × (Unit))))))) × (((Int) × ((List (UInt8)) × ((List (UInt8)) × ((Int) × ((Int) × (Unit)))))) × ((List (Int)) × (((Int) × ((List (UInt8)) × ((List (UInt8)) × ((Int) × ((Int) × (Unit)))))) × ((Bool) × (Unit))))))))) ⊕ ((List ((Int) × ((List (UInt8)) × ((List (UInt8)) × ((Int) × ((Int) × (Unit))))))) × (((Int) × ((Int) × ((Int) × ((List (UInt8)) × (Unit))))) × ((Bool) × ((List ((Int) × ((List (UInt8)) × ((List (UInt8)) × ((Int) × ((Int) × (Unit))))))) × (((Int) × ((List (UInt8)) × ((List (UInt8)) × ((Int) × ((Int) × (Unit)))))) × ((List (Int)) × (((Int) × ((List (UInt8)) × ((List (UInt8)) × ((Int) × ((Int) × (Unit)))))) × ((Bool) × (Unit))))))))))).bind fun r38 =>
 Go.Lf.onSum r38 (fun a39 =>
 ((Go.Fn.folioref04_lexer__pause a39 a2 (Go.IntKind.wrap .i64 ((((List.length a1) : Nat) : Int) + (1 : Int))))).bind fun r40 =>
 some r40) (fun b41 =>
 some b41)
theorem folioref04_lexer__text_eq (a0 : (List ((Int) × ((List (UInt8)) × ((List (UInt8)) × ((Int) × ((Int) × (Unit))))))) × (((Int) × ((Int) × ((Int) × ((List (UInt8)) × (Unit))))) × ((Bool) × ((List ((Int) × ((List (UInt8)) × ((List (UInt8)) × ((Int) × ((Int) × (Unit))))))) × (((Int) × ((List (UInt8)) × ((List (UInt8)) × ((Int) × ((Int) × (Unit)))))) × ((List (Int)) × (((Int) × ((List (UInt8)) × ((List (UInt8)) × ((Int) × ((Int) × (Unit)))))) × ((Bool) × (Unit))))))))) (a1 : List (UInt8)) (a2 : Int) : Go.Lf.fnE folioref04_lexer__textCtx folioref04_lexer__textCode folioref04_lexer__textAnn [.obj 52 (.st (.pr (.rw 40 (.st (.pr (.int .i64) (.pr .str (.pr .str (.pr (.int .i64) (.pr (.int .i64) .unit))))))) (.pr (.st (.pr (.int .i64) (.pr (.int .i64) (.pr (.int .i64) (.pr .str .unit))))) (.pr .bool (.pr (.mr 40 (.st (.pr (.int .i64) (.pr .str (.pr .str (.pr (.int .i64) (.pr (.int .i64) .unit))))))) (.pr (.st (.pr (.int .i64) (.pr .str (.pr .str (.pr (.int .i64) (.pr (.int .i64) .unit)))))) (.pr (.rw 5 (.int .u8)) (.pr (.st (.pr (.int .i64) (.pr .str (.pr .str (.pr (.int .i64) (.pr (.int .i64) .unit)))))) (.pr .bool .unit))))))))) (.st (.pr (.rw 40 (.st (.pr (.int .i64) (.pr .str (.pr .str (.pr (.int .i64) (.pr (.int .i64) .unit))))))) (.pr (.st (.pr (.int .i64) (.pr (.int .i64) (.pr (.int .i64) (.pr .str .unit))))) (.pr .bool (.pr (.mr 40 (.st (.pr (.int .i64) (.pr .str (.pr .str (.pr (.int .i64) (.pr (.int .i64) .unit))))))) (.pr (.st (.pr (.int .i64) (.pr .str (.pr .str (.pr (.int .i64) (.pr (.int .i64) .unit)))))) (.pr (.rw 5 (.int .u8)) (.pr (.st (.pr (.int .i64) (.pr .str (.pr .str (.pr (.int .i64) (.pr (.int .i64) .unit)))))) (.pr .bool .unit))))))))) [], .val .str, .val (.int .i64)] [] [] (a0, a1, a2) = folioref04_lexer__text a0 a1 a2 := by kernel_rfl
noncomputable def folioref04_lexer__textEnt : Nat × Go.Lf.Entry := (33, ⟨[.obj 52 (.st (.pr (.rw 40 (.st (.pr (.int .i64) (.pr .str (.pr .str (.pr (.int .i64) (.pr (.int .i64) .unit))))))) (.pr (.st (.pr (.int .i64) (.pr (.int .i64) (.pr (.int .i64) (.pr .str .unit))))) (.pr .bool (.pr (.mr 40 (.st (.pr (.int .i64) (.pr .str (.pr .str (.pr (.int .i64) (.pr (.int .i64) .unit))))))) (.pr (.st (.pr (.int .i64) (.pr .str (.pr .str (.pr (.int .i64) (.pr (.int .i64) .unit)))))) (.pr (.rw 5 (.int .u8)) (.pr (.st (.pr (.int .i64) (.pr .str (.pr .str (.pr (.int .i64) (.pr (.int .i64) .unit)))))) (.pr .bool .unit))))))))) (.st (.pr (.rw 40 (.st (.pr (.int .i64) (.pr .str (.pr .str (.pr (.int .i64) (.pr (.int .i64) .unit))))))) (.pr (.st (.pr (.int .i64) (.pr (.int .i64) (.pr (.int .i64) (.pr .str .unit))))) (.pr .bool (.pr (.mr 40 (.st (.pr (.int .i64) (.pr .str (.pr .str (.pr (.int .i64) (.pr (.int .i64) .unit))))))) (.pr (.st (.pr (.int .i64) (.pr .str (.pr .str (.pr (.int .i64) (.pr (.int .i64) .unit)))))) (.pr (.rw 5 (.int .u8)) (.pr (.st (.pr (.int .i64) (.pr .str (.pr .str (.pr (.int .i64) (.pr (.int .i64) .unit)))))) (.pr .bool .unit))))))))) [], .val .str, .val (.int .i64)], [], fun z => folioref04_lexer__text z.1 z.2.1 z.2.2⟩)
theorem folioref04_lexer__text_ok : Go.Lf.EntryOk Go.Proofs.Tryz.prog GG 33 folioref04_lexer__textEnt.2 :=
  Go.Lf.fn_ok (c := folioref04_lexer__textCtx) (code := folioref04_lexer__textCode) (an := folioref04_lexer__textAnn) (slots := []) (fn := Go.Proofs.Tryz.f33) (by kernel_rfl) ⟨Tys2_ok, Go.Lf.FnsOk.look (.con folioref04_lexer__fail_ok (.con folioref04_blank_ok (.con folioref04_letters_ok (.con folioref04_lexer__pause_ok (.con folioref04_lexer__begin_ok (.con folioref04_special_ok (.con folioref04_behind_ok (.con folioref04_lexer__rest_ok (.con folioref04_lexer__put_ok (.con folioref04_lexer__mark_ok .nil))))))))))⟩ (by kernel_rfl) (by kernel_rfl) (by kernel_rfl) (by kernel_rfl) (by kernel_rfl) (Nat.le_of_ble_eq_true rfl) (by simp [Go.Lf.Ty.top]) (by simp [Go.Lf.Ty.top]) fun z r h => (folioref04_lexer__text_eq z.1 z.2.1 z.2.2).trans h
noncomputable def folioref04_lexer__lineCtx : Go.Lf.Ctx := ⟨62, Tys2, [folioref04_lexer__endEnt, folioref04_lexer__failEnt, folioref04_badEnt, folioref04_stripEnt, folioref04_lexer__directiveEnt, folioref04_lexer__textEnt], [47], [], [(47, (.rw 40 (.st (.pr (.int .i64) (.pr .str (.pr .str (.pr (.int .i64) (.pr (.int .i64) .unit))))))))]⟩
noncomputable def folioref04_lexer__lineCode : Go.Code := (Go.Proofs.Tryz.f15.body).getD .skip
def folioref04_lexer__lineAnn : Go.Lf.Ann := (.seq .no (.seq .no (.seq (.join (.one .nrm ⟨[2, 1], [(0, 0, [], 0)], [(29, .bool)], [(0, 52, (.st (.pr (.rw 40 (.st (.pr (.int .i64) (.pr .str (.pr .str (.pr (.int .i64) (.pr (.int .i64) .unit))))))) (.pr (.st (.pr (.int .i64) (.pr (.int .i64) (.pr (.int .i64) (.pr .str .unit))))) (.pr .bool (.pr (.mr 40 (.st (.pr (.int .i64) (.pr .str (.pr .str (.pr (.int .i64) (.pr (.int .i64) .unit))))))) (.pr (.st (.pr (.int .i64) (.pr .str (.pr .str (.pr (.int .i64) (.pr (.int .i64) .unit)))))) (.pr (.rw 5 (.int .u8)) (.pr (.st (.pr (.int .i64) (.pr .str (.pr .str (.pr (.int .i64) (.pr (.int .i64) .unit)))))) (.pr .bool .unit))))))))))]⟩) .no) .no)))
noncomputable def folioref04_lexer__line (a0 : (List ((Int) × ((List (UInt8)) × ((List (UInt8)) × ((Int) × ((Int) × (Unit))))))) × (((Int) × ((Int) × ((Int) × ((List (UInt8)) × (Unit))))) × ((Bool) × ((List ((Int) × ((List (UInt8)) × ((List (UInt8)) × ((Int) × ((Int) × (Unit))))))) × (((Int) × ((List (UInt8)) × ((List (UInt8)) × ((Int) × ((Int) × (Unit)))))) × ((List (Int)) × (((Int) × ((List (UInt8)) × ((List (UInt8)) × ((Int) × ((Int) × (Unit)))))) × ((Bool) × (Unit))))))))) (a1 : List (UInt8)) (a2 : Int) : Option ((List ((Int) × ((List (UInt8)) × ((List (UInt8)) × ((Int) × ((Int) × (Unit))))))) × (((Int) × ((Int) × ((Int) × ((List (UInt8)) × (Unit))))) × ((Bool) × ((List ((Int) × ((List (UInt8)) × ((List (UInt8)) × ((Int) × ((Int) × (Unit))))))) × (((Int) × ((List (UInt8)) × ((List (UInt8)) × ((Int) × ((Int) × (Unit)))))) × ((List (Int)) × (((Int) × ((List (UInt8)) × ((List (UInt8)) × ((Int) × ((Int) × (Unit)))))) × ((Bool) × (Unit))))))))) :=
 bif (decide ((4096 : Int) < (((List.length a1) : Nat) : Int))) then ((Go.Fn.folioref04_lexer__fail a0 (2 : Int) a2 (1 : Int) ([] : List (UInt8)))).bind fun r1 =>
 some r1
 else ((Go.Fn.folioref04_bad a1)).bind fun r2 =>
 bif r2.2 then ((Go.Fn.folioref04_lexer__fail a0 (40 : Int) a2 (Go.IntKind.wrap .i64 (r2.1 + (1 : Int))) ([] : List (UInt8)))).bind fun r3 =>
 some r3
 else (bif (decide ((a1 : List (UInt8)) ≠ ([] : List (UInt8)))) then ((Go.Lf.idx a1 (0 : Int))).bind fun r4 =>
   some ((decide (((((UInt8.toNat r4) : Nat) : Int) : Int) = (35 : Int))), a0)
   else some (false, a0)).bind fun r5 =>
 bif r5.1 then some r5.2
 else ((Go.Fn.folioref04_strip a1)).bind fun r6 =>
 bif (decide ((r6 : List (UInt8)) = ([] : List (UInt8)))) then ((Go.Fn.folioref04_lexer__end r5.2)).bind fun r7 =>
 ((Go.Lf.app (56 : Nat) r7.1 (((2 : Int), (([] : List (UInt8)), (([] : List (UInt8)), (a2, ((1 : Int), ()))))) :: ([] : List ((Int) × ((List (UInt8)) × ((List (UInt8)) × ((Int) × ((Int) × (Unit)))))))))).bind fun r8 =>
 some (r8, r7.2)
 else ((Go.Lf.idx a1 (0 : Int))).bind fun r9 =>
 bif (decide (((((UInt8.toNat r9) : Nat) : Int) : Int) = (46 : Int))) then ((Go.Fn.folioref04_lexer__directive r5.2 a1 a2)).bind fun r10 =>
 some r10
 else ((Go.Fn.folioref04_lexer__text r5.2 a1 a2)).bind fun r11 =>
 some r11
theorem folioref04_lexer__line_eq (a0 : (List ((Int) × ((List (UInt8)) × ((List (UInt8)) × ((Int) × ((Int) × (Unit))))))) × (((Int) × ((Int) × ((Int) × ((List (UInt8)) × (Unit))))) × ((Bool) × ((List ((Int) × ((List (UInt8)) × ((List (UInt8)) × ((Int) × ((Int) × (Unit))))))) × (((Int) × ((List (UInt8)) × ((List (UInt8)) × ((Int) × ((Int) × (Unit)))))) × ((List (Int)) × (((Int) × ((List (UInt8)) × ((List (UInt8)) × ((Int) × ((Int) × (Unit)))))) × ((Bool) × (Unit))))))))) (a1 : List (UInt8)) (a2 : Int) : Go.Lf.fnE folioref04_lexer__lineCtx folioref04_lexer__lineCode folioref04_lexer__lineAnn [.obj 52 (.st (.pr (.rw 40 (.st (.pr (.int .i64) (.pr .str (.pr .str (.pr (.int .i64) (.pr (.int .i64) .unit))))))) (.pr (.st (.pr (.int .i64) (.pr (.int .i64) (.pr (.int .i64) (.pr .str .unit))))) (.pr .bool (.pr (.mr 40 (.st (.pr (.int .i64) (.pr .str (.pr .str (.pr (.int .i64) (.pr (.int .i64) .unit))))))) (.pr (.st (.pr (.int .i64) (.pr .str (.pr .str (.pr (.int .i64) (.pr (.int .i64) .unit)))))) (.pr (.rw 5 (.int .u8)) (.pr (.st (.pr (.int .i64) (.pr .str (.pr .str (.pr (.int .i64) (.pr (.int .i64) .unit)))))) (.pr .bool .unit))))))))) (.st (.pr (.rw 40 (.st (.pr (.int .i64) (.pr .str (.pr .str (.pr (.int .i64) (.pr (.int .i64) .unit))))))) (.pr (.st (.pr (.int .i64) (.pr (.int .i64) (.pr (.int .i64) (.pr .str .unit))))) (.pr .bool (.pr (.mr 40 (.st (.pr (.int .i64) (.pr .str (.pr .str (.pr (.int .i64) (.pr (.int .i64) .unit))))))) (.pr (.st (.pr (.int .i64) (.pr .str (.pr .str (.pr (.int .i64) (.pr (.int .i64) .unit)))))) (.pr (.rw 5 (.int .u8)) (.pr (.st (.pr (.int .i64) (.pr .str (.pr .str (.pr (.int .i64) (.pr (.int .i64) .unit)))))) (.pr .bool .unit))))))))) [], .val .str, .val (.int .i64)] [] [] (a0, a1, a2) = folioref04_lexer__line a0 a1 a2 := by kernel_rfl
noncomputable def folioref04_lexer__lineEnt : Nat × Go.Lf.Entry := (15, ⟨[.obj 52 (.st (.pr (.rw 40 (.st (.pr (.int .i64) (.pr .str (.pr .str (.pr (.int .i64) (.pr (.int .i64) .unit))))))) (.pr (.st (.pr (.int .i64) (.pr (.int .i64) (.pr (.int .i64) (.pr .str .unit))))) (.pr .bool (.pr (.mr 40 (.st (.pr (.int .i64) (.pr .str (.pr .str (.pr (.int .i64) (.pr (.int .i64) .unit))))))) (.pr (.st (.pr (.int .i64) (.pr .str (.pr .str (.pr (.int .i64) (.pr (.int .i64) .unit)))))) (.pr (.rw 5 (.int .u8)) (.pr (.st (.pr (.int .i64) (.pr .str (.pr .str (.pr (.int .i64) (.pr (.int .i64) .unit)))))) (.pr .bool .unit))))))))) (.st (.pr (.rw 40 (.st (.pr (.int .i64) (.pr .str (.pr .str (.pr (.int .i64) (.pr (.int .i64) .unit))))))) (.pr (.st (.pr (.int .i64) (.pr (.int .i64) (.pr (.int .i64) (.pr .str .unit))))) (.pr .bool (.pr (.mr 40 (.st (.pr (.int .i64) (.pr .str (.pr .str (.pr (.int .i64) (.pr (.int .i64) .unit))))))) (.pr (.st (.pr (.int .i64) (.pr .str (.pr .str (.pr (.int .i64) (.pr (.int .i64) .unit)))))) (.pr (.rw 5 (.int .u8)) (.pr (.st (.pr (.int .i64) (.pr .str (.pr .str (.pr (.int .i64) (.pr (.int .i64) .unit)))))) (.pr .bool .unit))))))))) [], .val .str, .val (.int .i64)], [], fun z => folioref04_lexer__line z.1 z.2.1 z.2.2⟩)
theorem folioref04_lexer__line_ok : Go.Lf.EntryOk Go.Proofs.Tryz.prog GG 15 folioref04_lexer__lineEnt.2 :=
  Go.Lf.fn_ok (c := folioref04_lexer__lineCtx) (code := folioref04_lexer__lineCode) (an := folioref04_lexer__lineAnn) (slots := []) (fn := Go.Proofs.Tryz.f15) (by kernel_rfl) ⟨Tys2_ok, Go.Lf.FnsOk.look (.con folioref04_lexer__end_ok (.con folioref04_lexer__fail_ok (.con folioref04_bad_ok (.con folioref04_strip_ok (.con folioref04_lexer__directive_ok (.con folioref04_lexer__text_ok .nil))))))⟩ (by kernel_rfl) (by kernel_rfl) (by kernel_rfl) (by kernel_rfl) (by kernel_rfl) (Nat.le_of_ble_eq_true rfl) (by simp [Go.Lf.Ty.top]) (by simp [Go.Lf.Ty.top]) fun z r h => (folioref04_lexer__line_eq z.1 z.2.1 z.2.2).trans h
noncomputable def folioref04_LexCtx : Go.Lf.Ctx := ⟨57, Tys2, [folioref04_LinesEnt, folioref04_lexer__lineEnt, folioref04_lexer__endEnt], [2, 52], [], [(2, (.rw 40 (.st (.pr (.int .i64) (.pr .str (.pr .str (.pr (.int .i64) (.pr (.int .i64) .unit)))))))), (11, (.st (.pr (.rw 40 (.st (.pr (.int .i64) (.pr .str (.pr .str (.pr (.int .i64) (.pr (.int .i64) .unit))))))) (.pr (.st (.pr (.int .i64) (.pr (.int .i64) (.pr (.int .i64) (.pr .str .unit))))) (.pr .bool (.pr (.mr 40 (.st (.pr (.int .i64) (.pr .str (.pr .str (.pr (.int .i64) (.pr (.int .i64) .unit))))))) (.pr (.st (.pr (.int .i64) (.pr .str (.pr .str (.pr (.int .i64) (.pr (.int .i64) .unit)))))) (.pr (.rw 5 (.int .u8)) (.pr (.st (.pr (.int .i64) (.pr .str (.pr .str (.pr (.int .i64) (.pr (.int .i64) .unit)))))) (.pr .bool .unit)))))))))), (52, (.rw 40 (.st (.pr (.int .i64) (.pr .str (.pr .str (.pr (.int .i64) (.pr (.int .i64) .unit))))))))]⟩
noncomputable def folioref04_LexCode : Go.Code := (Go.Proofs.Tryz.f5.body).getD .skip
def folioref04_LexAnn : Go.Lf.Ann := (.seq .no (.seq .no (.seq .no (.seq .no (.seq (.seq .no (.loop ⟨[5], [(4, 12, [], 0), (3, 3, [], 0)], [(6, (.int .i64))], [(12, 52, (.st (.pr (.rw 40 (.st (.pr (.int .i64) (.pr .str (.pr .str (.pr (.int .i64) (.pr (.int .i64) .unit))))))) (.pr (.st (.pr (.int .i64) (.pr (.int .i64) (.pr (.int .i64) (.pr .str .unit))))) (.pr .bool (.pr (.mr 40 (.st (.pr (.int .i64) (.pr .str (.pr .str (.pr (.int .i64) (.pr (.int .i64) .unit))))))) (.pr (.st (.pr (.int .i64) (.pr .str (.pr .str (.pr (.int .i64) (.pr (.int .i64) .unit)))))) (.pr (.rw 5 (.int .u8)) (.pr (.st (.pr (.int .i64) (.pr .str (.pr .str (.pr (.int .i64) (.pr (.int .i64) .unit)))))) (.pr .bool .unit)))))))))), (3, 28, (.st (.pr (.int .i64) (.pr (.int .i64) (.pr (.int .i64) (.pr .str .unit))))))]⟩ (.one (.ext 0) ⟨[], [(3, 3, [], 0), (4, 12, [], 0)], [], [(3, 28, (.st (.pr (.int .i64) (.pr (.int .i64) (.pr (.int .i64) (.pr .str .unit)))))), (12, 52, (.st (.pr (.rw 40 (.st (.pr (.int .i64) (.pr .str (.pr .str (.pr (.int .i64) (.pr (.int .i64) .unit))))))) (.pr (.st (.pr (.int .i64) (.pr (.int .i64) (.pr (.int .i64) (.pr .str .unit))))) (.pr .bool (.pr (.mr 40 (.st (.pr (.int .i64) (.pr .str (.pr .str (.pr (.int .i64) (.pr (.int .i64) .unit))))))) (.pr (.st (.pr (.int .i64) (.pr .str (.pr .str (.pr (.int .i64) (.pr (.int .i64) .unit)))))) (.pr (.rw 5 (.int .u8)) (.pr (.st (.pr (.int .i64) (.pr .str (.pr .str (.pr (.int .i64) (.pr (.int .i64) .unit)))))) (.pr .bool .unit))))))))))]⟩) (.seq (.seq (.join (.one .nrm ⟨[5, 6], [(4, 12, [], 0), (3, 3, [], 0)], [(26, .bool)], [(12, 52, (.st (.pr (.rw 40 (.st (.pr (.int .i64) (.pr .str (.pr .str (.pr (.int .i64) (.pr (.int .i64) .unit))))))) (.pr (.st (.pr (.int .i64) (.pr (.int .i64) (.pr (.int .i64) (.pr .str .unit))))) (.pr .bool (.pr (.mr 40 (.st (.pr (.int .i64) (.pr .str (.pr .str (.pr (.int .i64) (.pr (.int .i64) .unit))))))) (.pr (.st (.pr (.int .i64) (.pr .str (.pr .str (.pr (.int .i64) (.pr (.int .i64) .unit)))))) (.pr (.rw 5 (.int .u8)) (.pr (.st (.pr (.int .i64) (.pr .str (.pr .str (.pr (.int .i64) (.pr (.int .i64) .unit)))))) (.pr .bool .unit)))))))))), (3, 28, (.st (.pr (.int .i64) (.pr (.int .i64) (.pr (.int .i64) (.pr .str .unit))))))]⟩) .no) .no) .no))) (.seq .no (.seq (.seq .no (.cnd (.seq (.draw 5) .no) .no)) (.seq (.draw 9) .no))))))))
noncomputable def folioref04_Lex (a0 : List (UInt8)) : Option ((List ((Int) × ((List (UInt8)) × ((List (UInt8)) × ((Int) × ((Int) × (Unit))))))) × ((Int) × ((Int) × ((Int) × ((List (UInt8)) × (Unit)))))) :=
 bif (decide ((65536 : Int) < (((List.length a0) : Nat) : Int))) then some (([] : List ((Int) × ((List (UInt8)) × ((List (UInt8)) × ((Int) × ((Int) × (Unit))))))), ((2 : Int), ((0 : Int), ((0 : Int), (([] : List (UInt8)), ())))))
 else ((Go.Fn.folioref04_Lines a0)).bind fun r1 =>
 (Go.Lf.loopC (σ := (Int) × (((List ((Int) × ((List (UInt8)) × ((List (UInt8)) × ((Int) × ((Int) × (Unit))))))) × (((Int) × ((Int) × ((Int) × ((List (UInt8)) × (Unit))))) × ((Bool) × ((List ((Int) × ((List (UInt8)) × ((List (UInt8)) × ((Int) × ((Int) × (Unit))))))) × (((Int) × ((List (UInt8)) × ((List (UInt8)) × ((Int) × ((Int) × (Unit)))))) × ((List (Int)) × (((Int) × ((List (UInt8)) × ((List (UInt8)) × ((Int) × ((Int) × (Unit)))))) × ((Bool) × (Unit))))))))) × ((Int) × ((Int) × ((Int) × ((List (UInt8)) × (Unit))))))) (κ := ((Int) × ((Int) × ((Int) × ((List (UInt8)) × (Unit))))) × ((List ((Int) × ((List (UInt8)) × ((List (UInt8)) × ((Int) × ((Int) × (Unit))))))) × (((Int) × ((Int) × ((Int) × ((List (UInt8)) × (Unit))))) × ((Bool) × ((List ((Int) × ((List (UInt8)) × ((List (UInt8)) × ((Int) × ((Int) × (Unit))))))) × (((Int) × ((List (UInt8)) × ((List (UInt8)) × ((Int) × ((Int) × (Unit)))))) × ((List (Int)) × (((Int) × ((List (UInt8)) × ((List (UInt8)) × ((Int) × ((Int) × (Unit)))))) × ((Bool) × (Unit)))))))))) (fun z2 =>
     (bif (decide (z2.1 < (((List.length r1) : Nat) : Int))) then some ((decide ((z2.2.1.2.1.1 : Int) = (0 : Int))), (z2.2.1, z2.2.2))
       else some (false, (z2.2.1, z2.2.2))).bind fun r3 =>
     bif r3.1 then ((Go.Lf.idx r1 z2.1)).bind fun r4 =>
     ((Go.Fn.folioref04_lexer__line r3.2.1 r4 (Go.IntKind.wrap .i64 (z2.1 + (1 : Int))))).bind fun r5 =>
     some (.inl ((Go.IntKind.wrap .i64 (z2.1 + (1 : Int))), (r5, r3.2.2)))
     else some (.inr (r3.2.2, r3.2.1))) ((0 : Int), ((([] : List ((Int) × ((List (UInt8)) × ((List (UInt8)) × ((Int) × ((Int) × (Unit))))))), (((0 : Int), ((0 : Int), ((0 : Int), (([] : List (UInt8)), ())))), (false, (([] : List ((Int) × ((List (UInt8)) × ((List (UInt8)) × ((Int) × ((Int) × (Unit))))))), (((0 : Int), (([] : List (UInt8)), (([] : List (UInt8)), ((0 : Int), ((0 : Int), ()))))), (([] : List (Int)), (((0 : Int), (([] : List (UInt8)), (([] : List (UInt8)), ((0 : Int), ((0 : Int), ()))))), (false, ())))))))), ((0 : Int), ((0 : Int), ((0 : Int), (([] : List (UInt8)), ())))))) : Option (((Int) × ((Int) × ((Int) × ((List (UInt8)) × (Unit))))) × ((List ((Int) × ((List (UInt8)) × ((List (UInt8)) × ((Int) × ((Int) × (Unit))))))) × (((Int) × ((Int) × ((Int) × ((List (UInt8)) × (Unit))))) × ((Bool) × ((List ((Int) × ((List (UInt8)) × ((List (UInt8)) × ((Int) × ((Int) × (Unit))))))) × (((Int) × ((List (UInt8)) × ((List (UInt8)) × ((Int) × ((Int) × (Unit)))))) × ((List (Int)) × (((Int) × ((List (UInt8)) × ((List (UInt8)) × ((Int) × ((Int) × (Unit)))))) × ((Bool) × (Unit))))))))))).bind fun r6 =>
 ((Go.Fn.folioref04_lexer__end r6.2)).bind fun r7 =>
 bif (decide ((r7.2.1.1 : Int) ≠ (0 : Int))) then some (([] : List ((Int) × ((List (UInt8)) × ((List (UInt8)) × ((Int) × ((Int) × (Unit))))))), r7.2.1)
 else some (r7.1, r7.2.1)
theorem folioref04_Lex_eq (a0 : List (UInt8)) : Go.Lf.fnE folioref04_LexCtx folioref04_LexCode folioref04_LexAnn [.val .str] [(.rw 40 (.st (.pr (.int .i64) (.pr .str (.pr .str (.pr (.int .i64) (.pr (.int .i64) .unit))))))), (.st (.pr (.int .i64) (.pr (.int .i64) (.pr (.int .i64) (.pr .str .unit)))))] [.tmp 2, .cell 3 28] (a0) = folioref04_Lex a0 := by kernel_rfl
noncomputable def folioref04_LexEnt : Nat × Go.Lf.Entry := (5, ⟨[.val .str], [(.rw 40 (.st (.pr (.int .i64) (.pr .str (.pr .str (.pr (.int .i64) (.pr (.int .i64) .unit))))))), (.st (.pr (.int .i64) (.pr (.int .i64) (.pr (.int .i64) (.pr .str .unit)))))], fun z => folioref04_Lex z⟩)
theorem folioref04_Lex_ok : Go.Lf.EntryOk Go.Proofs.Tryz.prog GG 5 folioref04_LexEnt.2 :=
  Go.Lf.fn_ok (c := folioref04_LexCtx) (code := folioref04_LexCode) (an := folioref04_LexAnn) (slots := [.tmp 2, .cell 3 28]) (fn := Go.Proofs.Tryz.f5) (by kernel_rfl) ⟨Tys2_ok, Go.Lf.FnsOk.look (.con folioref04_Lines_ok (.con folioref04_lexer__line_ok (.con folioref04_lexer__end_ok .nil)))⟩ (by kernel_rfl) (by kernel_rfl) (by kernel_rfl) (by kernel_rfl) (by kernel_rfl) (Nat.le_of_ble_eq_true rfl) (by simp [Go.Lf.Ty.top]) (by simp [Go.Lf.Ty.top]) fun z r h => (folioref04_Lex_eq z).trans h
noncomputable def foliolaw04_MarkLexesCtx : Go.Lf.Ctx := ⟨28, Tys2, [mark_LexEnt, folioref04_LexEnt, foliolaw04_toldEnt, folioref04_SameEnt, foliolaw04_awakeEnt], [], [], []⟩
noncomputable def foliolaw04_MarkLexesCode : Go.Code := (Go.Proofs.Tryz.f3.body).getD .skip
def foliolaw04_MarkLexesAnn : Go.Lf.Ann := (.seq .no (.seq .no (.seq .no (.seq (.join (.one .nrm ⟨[], [], [(2, .bool)], []⟩) .no) .no))))
noncomputable def foliolaw04_MarkLexes (a0 : List (UInt8)) : Option (Bool) :=
 ((Go.Fn.mark_Lex a0)).bind fun r1 =>
 ((Go.Fn.folioref04_Lex a0)).bind fun r2 =>
 (((Go.Fn.foliolaw04_told r1.2 r2.2)).bind fun r3 =>
   bif r3 then ((Go.Fn.folioref04_Same r1.1 r2.1)).bind fun r4 =>
   bif r4 then (Go.Fn.foliolaw04_awake).bind fun r5 =>
   some r5
   else some false
   else some false).bind fun r6 =>
 some r6
theorem foliolaw04_MarkLexes_eq (a0 : List (UInt8)) : Go.Lf.fnE foliolaw04_MarkLexesCtx foliolaw04_MarkLexesCode foliolaw04_MarkLexesAnn [.val .str] [.bool] [.tmp 2] (a0) = foliolaw04_MarkLexes a0 := by kernel_rfl
noncomputable def foliolaw04_MarkLexesEnt : Nat × Go.Lf.Entry := (3, ⟨[.val .str], [.bool], fun z => foliolaw04_MarkLexes z⟩)
theorem foliolaw04_MarkLexes_ok : Go.Lf.EntryOk Go.Proofs.Tryz.prog GG 3 foliolaw04_MarkLexesEnt.2 :=
  Go.Lf.fn_ok (c := foliolaw04_MarkLexesCtx) (code := foliolaw04_MarkLexesCode) (an := foliolaw04_MarkLexesAnn) (slots := [.tmp 2]) (fn := Go.Proofs.Tryz.f3) (by kernel_rfl) ⟨Tys2_ok, Go.Lf.FnsOk.look (.con mark_Lex_ok (.con folioref04_Lex_ok (.con foliolaw04_told_ok (.con folioref04_Same_ok (.con foliolaw04_awake_ok .nil)))))⟩ (by kernel_rfl) (by kernel_rfl) (by kernel_rfl) (by kernel_rfl) (by kernel_rfl) (Nat.le_of_ble_eq_true rfl) (by simp [Go.Lf.Ty.top]) (by simp [Go.Lf.Ty.top]) fun z r h => (foliolaw04_MarkLexes_eq z).trans h
end Go.Fn
/- Chapter 4, plainly: the document's lexer is the program's. -/
namespace Go.Fn
open Go Go.Lf
/-- between two lines -/
def Lr (x : Lx) (p q : Bool) : Prop := (x.ins = false ∧ p = false ∧ q = false ∧ x.opn = [] ∧ x.run = none ∧ x.bl = none) ∨ (x.ins = true ∧ p = true ∧ q = x.fresh)
theorem flush_opn (x : Lx) : (flushS x).opn = x.opn := rfl
theorem rend_eq {x : Lx} {n : Nat} (h : x.Ok n) (p q : Bool) (hr : Lr x p q) (hn : n ≤ 99999990) :
    (∃ w p' q' x', w.code ≠ 0 ∧ endS x = .error w ∧ folioref04_lexer__end (rx p q x) = some (rxW (some w) p' q' x') ∧ x'.Ok (n + 1)) ∨
    (∃ y, endS x = .ok y ∧ y.Ok (n + 1) ∧ Lr y false false ∧ y.line = x.line ∧ folioref04_lexer__end (rx p q x) = some (rx false false y)) := by
  unfold folioref04_lexer__end
  rcases hr with ⟨h1, rfl, rfl, h2, h3, h4⟩ | ⟨h1, rfl, rfl⟩
  · refine .inr ⟨x, if_pos h1, h.mono (by omega), .inl ⟨h1, rfl, rfl, h2, h3, h4⟩, rfl, rfl⟩
  · have hbl : ∀ w : Option Wr, folioref04_lexer__flush (rxW w true x.fresh { x with bl := none }) = some (rxW w true x.fresh (flushS { x with bl := none })) := fun w => rflush_eq (x := { x with bl := none }) (n := n) ⟨h.out, h.opn, h.run, fun r hr => by cases hr⟩ w true x.fresh (by omega)
    have hx2 : (flushS { x with bl := none }).Ok (n + 1) := flush_ok (x := { x with bl := none }) (n := n) ⟨h.out, h.opn, h.run, fun r hr => by cases hr⟩ (Nat.le_refl _)
    have hop : (rx true x.fresh x).2.2.2.1 = opT x.opn := rfl
    have hend : endS x = match x.opn.getLast? with
      | some b => .error ⟨45, b.2.1, b.2.2.1, b.1⟩
      | none => .ok { flushS x with ins := false, bl := none } := if_neg (by rw [h1]; decide)
    have hp : (rx true x.fresh x).2.2.1 = true := rfl
    rw [hp, hop, opT_len, hend]
    cases ho : x.opn.getLast? with
    | none =>
      rw [List.getLast?_eq_none_iff] at ho
      right
      refine ⟨_, rfl, ⟨hx2.out, hx2.opn, hx2.run, fun r hr => by cases hr⟩, .inl ⟨rfl, rfl, rfl, ho, rfl, rfl⟩, rfl, ?_⟩
      simp only [ho, List.length_nil, Bool.not_true, cond_false]
      have := hbl none
      simp only [show decide ((0 : Int) < ((0 : Nat) : Int)) = false from rfl, cond_false, Option.bind_some]
      show ((folioref04_lexer__flush (rxW none true x.fresh { x with bl := none })).bind _) = _
      rw [this]
      have e9 : rx false false { flushS x with ins := false, bl := none } = ((flushS x).out, wrT none, false, ([] : List Tok), tkT none, bytesI [], tkT none, false, ()) := by
        show (_, _, _, opT x.opn, _, _, _, _, _) = _
        rw [ho]
        rfl
      rw [e9]
      rfl
    | some b =>
      left
      have hl : x.opn ≠ [] := fun e => by rw [e] at ho; cases ho
      have hlen : 0 < x.opn.length := List.length_pos_iff.2 hl
      have hb := h.opn
      have hw : IntKind.wrap .i64 (((x.opn.length : Nat) : Int) - 1) = ((x.opn.length - 1 : Nat) : Int) := by rw [wrap64 (by omega) (by omega)]; omega
      have hck : chk x.opn.length ((x.opn.length - 1 : Nat) : Int) = some (x.opn.length - 1) := chk_nat (by omega)
      have hnt : nth (opT x.opn) (x.opn.length - 1) = some (3, b.1, [], b.2.1, b.2.2.1, ()) := by
        unfold nth opT
        rw [List.getElem?_map, ← List.getLast?_eq_getElem?, ho]
        rfl
      have h0 : (0 : Int) < ((x.opn.length : Nat) : Int) := by omega
      refine ⟨⟨45, b.2.1, b.2.2.1, b.1⟩, false, false, { flushS { x with bl := none } with opn := [] }, (show (45 : Int) ≠ 0 by decide), rfl, ?_, ⟨hx2.out, by simp, hx2.run, hx2.bl⟩⟩
      simp only [Bool.not_true, cond_false, h0, decide_true, cond_true, hw, hck, Option.bind_some, hnt, fail_eq]
      have := hbl (some ⟨45, b.2.1, b.2.2.1, b.1⟩)
      show ((folioref04_lexer__flush (rxW (some ⟨45, b.2.1, b.2.2.1, b.1⟩) true x.fresh { x with bl := none })).bind _) = _
      rw [this]
      rfl
/-- once there is a fault, the end leaves it -/
theorem rend_err {x : Lx} {n : Nat} (h : x.Ok n) (w : Wr) (hw : w.code ≠ 0) (p q : Bool) (hn : n ≤ 99999990) : ∃ p' q' x', folioref04_lexer__end (rxW (some w) p q x) = some (rxW (some w) p' q' x') := by
  unfold folioref04_lexer__end
  cases p with
  | false => exact ⟨false, q, x, rfl⟩
  | true =>
    refine ⟨false, false, { flushS { x with bl := none } with opn := [] }, ?_⟩
    have hfl := rflush_eq (x := { x with bl := none }) (n := n) ⟨h.out, h.opn, h.run, fun r hr => by cases hr⟩ (some w) true q (by omega)
    have hop : (rxW (some w) true q x).2.2.2.1 = opT x.opn := rfl
    have hp : (rxW (some w) true q x).2.2.1 = true := rfl
    rw [hp, hop, opT_len]
    by_cases hl : x.opn = []
    · have hlen : x.opn.length = 0 := by rw [hl]; rfl
      simp only [hlen, Bool.not_true, cond_false, show decide ((0 : Int) < ((0 : Nat) : Int)) = false from rfl, Option.bind_some]
      show ((folioref04_lexer__flush (rxW (some w) true q { x with bl := none })).bind _) = _
      rw [hfl]
      rfl
    · have hlen : 0 < x.opn.length := List.length_pos_iff.2 hl
      have hb := h.opn
      obtain ⟨b, ho⟩ : ∃ b, x.opn.getLast? = some b := by
        cases hx : x.opn.getLast? with
        | none => rw [List.getLast?_eq_none_iff] at hx; exact absurd hx hl
        | some b => exact ⟨b, rfl⟩
      have hw1 : IntKind.wrap .i64 (((x.opn.length : Nat) : Int) - 1) = ((x.opn.length - 1 : Nat) : Int) := by rw [wrap64 (by omega) (by omega)]; omega
      have hck : chk x.opn.length ((x.opn.length - 1 : Nat) : Int) = some (x.opn.length - 1) := chk_nat (by omega)
      have hnt : nth (opT x.opn) (x.opn.length - 1) = some (3, b.1, [], b.2.1, b.2.2.1, ()) := by
        unfold nth opT
        rw [List.getElem?_map, ← List.getLast?_eq_getElem?, ho]
        rfl
      have h0 : (0 : Int) < ((x.opn.length : Nat) : Int) := by omega
      simp only [Bool.not_true, cond_false, h0, decide_true, cond_true, hw1, hck, Option.bind_some, hnt, fail_two w hw]
      show ((folioref04_lexer__flush (rxW (some w) true q { x with bl := none })).bind _) = _
      rw [hfl]
      rfl
theorem condD2 (p1 p2 p3 a : Bool) (x : RxT) : (bif !p1 then bif !p2 then bif p3 then some (!a, x) else some (false, x) else some (true, x) else some (true, x)) = some (p1 || p2 || (p3 && !a), x) := by
  cases p1 <;> cases p2 <;> cases p3 <;> rfl
/-- what a function of a line leaves -/
def LnR (r : Option RxT) (s : Except Wr Lx) (L n : Nat) : Prop := match s with
  | .error w => w.code ≠ 0 ∧ ∃ p q x, r = some (rxW (some w) p q x) ∧ x.Ok n
  | .ok y => ∃ p q, r = some (rx p q y) ∧ y.Ok n ∧ Lr y p q ∧ y.line = L
theorem rdir_eq {x : Lx} {n : Nat} (h : x.Ok n) (p q : Bool) (hr : Lr x p q) (l : Bs) (hl : l.length ≤ 65536) (hd0 : l ≠ []) (hn : n ≤ 90000000) : LnR (folioref04_lexer__directive (rx p q x) l (x.line : Int)) (dirS x l) x.line (n + 2) := by
  have hpos := List.length_pos_iff.2 hd0
  have hk := lets_le (l.drop 1)
  rw [List.length_drop] at hk
  unfold folioref04_lexer__directive dirS
  have hlet : folioref04_letters l (1 : Int) = some ((lets (l.drop 1) : Nat) : Int) := letters_eq l 1 (by omega) (by omega)
  rw [hlet]
  simp only [Option.bind_some]
  generalize lets (l.drop 1) = k at *
  have hw : IntKind.wrap .i64 ((1 : Int) + (k : Int)) = ((1 + k : Nat) : Int) := by rw [wrap64 (by omega) (by omega)]; omega
  have hw2 : IntKind.wrap .i64 ((1 : Int) + min (k : Int) 12) = ((1 + min k 12 : Nat) : Int) := by rw [wrap64 (by omega) (by omega)]; omega
  have hs2 : sub l ((1 + k : Nat) : Int) ((l.length : Nat) : Int) = some (l.drop (1 + k)) := sub_end (by omega)
  have hs3 : sub l (1 : Int) ((1 + k : Nat) : Int) = some ((l.drop 1).take k) := sub_len (a := 1) (by omega)
  have hs4 : sub l (1 : Int) ((1 + min k 12 : Nat) : Int) = some ((l.drop 1).take (min k 12)) := sub_len (a := 1) (by omega)
  have k0 : decide (((k : Nat) : Int) < 1) = (k == 0) := by
    by_cases h : k = 0
    · subst h; rfl
    · have : ¬ ((k : Nat) : Int) < 1 := by omega
      simp [this, h]
  have k12 : decide ((12 : Int) < ((k : Nat) : Int)) = decide (12 < k) := by
    by_cases h : 12 < k
    · have : (12 : Int) < ((k : Nat) : Int) := by omega
      simp [this, h]
    · have : ¬ (12 : Int) < ((k : Nat) : Int) := by omega
      simp [this, h]
  rw [hw, hw2, k0, k12]
  have hE : (bif !(k == 0) then bif !(decide (12 < k)) then bif (decide (((1 + k : Nat) : Int) < ((l.length : Nat) : Int))) then ((Go.Lf.idx l ((1 + k : Nat) : Int))).bind fun r2 =>
   ((Go.Fn.folioref04_blank (((UInt8.toNat r2) : Nat) : Int))).bind fun r3 =>
   some ((!r3), rx p q x)
   else some (false, rx p q x)
   else some (true, rx p q x)
   else some (true, rx p q x)) = some (endB' k (l.drop (1 + k)), rx p q x) := by
    by_cases h1 : 1 + k < l.length
    · have h1' : ((1 + k : Nat) : Int) < ((l.length : Nat) : Int) := by omega
      have hg : idx l ((1 + k : Nat) : Int) = some l[1 + k] := by rw [idx_nat, List.getElem?_eq_getElem h1]
      simp only [h1', decide_true, hg, Option.bind_some, rblank_eq]
      rw [condD2, List.drop_eq_getElem_cons h1]
      unfold endB'
      simp
    · have h1' : ¬ ((1 + k : Nat) : Int) < ((l.length : Nat) : Int) := by omega
      rw [List.drop_eq_nil_of_le (by omega)]
      simp only [h1', decide_false, cond_false]
      unfold endB'
      cases k == 0 <;> cases decide (12 < k) <;> rfl
  rw [hE]
  simp only [Option.bind_some]
  cases he : endB' k (l.drop (1 + k)) with
  | true =>
    simp only [cond_true, hs4, Option.bind_some, fail_eq]
    exact ⟨(show (41 : Int) ≠ 0 by decide), p, q, x, rfl, h.mono (by omega)⟩
  | false =>
    have htr := strip_eq (l.drop (1 + k)) (by rw [List.length_drop]; omega)
    simp only [cond_false, Bool.false_eq_true, if_false]
    rcases rend_eq h p q hr (by omega) with ⟨w, p', q', x', e1, e2, e3, e4⟩ | ⟨y, e1, e2, e3, e4, e5⟩
    · rw [e2, e3]
      have ho := e4.out
      have ha : app 56 x'.out [((1 : Int), (l.drop 1).take k, Lib.trimS (l.drop (1 + k)) [32, 9], ((x.line : Nat) : Int), (1 : Int), ())] = some (x'.out ++ [((1 : Int), (l.drop 1).take k, Lib.trimS (l.drop (1 + k)) [32, 9], ((x.line : Nat) : Int), (1 : Int), ())]) := app_of (by simp; omega)
      have e0 : (rxW (some w) p' q' x').1 = x'.out := rfl
      simp only [Option.bind_some, hs3, hs2, htr, e0, ha]
      refine ⟨e1, p', q', { x' with out := x'.out ++ [((1 : Int), (l.drop 1).take k, Lib.trimS (l.drop (1 + k)) [32, 9], ((x.line : Nat) : Int), (1 : Int), ())] }, rfl, ?_, e4.opn, (e4.mono (by omega)).run, e4.bl⟩
      simp; omega
    · rw [e1, e5]
      have ho := e2.out
      have ha : app 56 y.out [((1 : Int), (l.drop 1).take k, Lib.trimS (l.drop (1 + k)) [32, 9], ((x.line : Nat) : Int), (1 : Int), ())] = some (y.out ++ [((1 : Int), (l.drop 1).take k, Lib.trimS (l.drop (1 + k)) [32, 9], ((x.line : Nat) : Int), (1 : Int), ())]) := app_of (by simp; omega)
      have e0 : (rx false false y).1 = y.out := rfl
      simp only [Option.bind_some, hs3, hs2, htr, e0, ha]
      rw [e4]
      refine ⟨false, false, rfl, ⟨by simp; omega, e2.opn, (e2.mono (by omega)).run, e2.bl⟩, e3, by first | exact e4 | rfl⟩
theorem rtext_eq {x : Lx} {n : Nat} (h : x.Ok n) (p q : Bool) (hr : Lr x p q) (l : Bs) (hl : l.length ≤ 65536) (hnb : Lib.trimS l [32, 9] ≠ []) (hn : n ≤ 70000000) : LnR (folioref04_lexer__text (rx p q x) l (x.line : Int)) (textS 0 (beginS x) 1 l) x.line (n + 8 * l.length) := by
  have hins := begin_ins x
  have hmd : Md (beginS x) p q ∧ rx p q x = rx p q (beginS x) := by
    rcases hr with ⟨h1, rfl, rfl, h2, h3, h4⟩ | ⟨h1, rfl, rfl⟩
    · have e : beginS x = { x with ins := true, fresh := true } := if_pos h1
      rw [e]
      exact ⟨.inr ⟨rfl, rfl, rfl, h4, h3⟩, rfl⟩
    · have e : beginS x = x := if_neg (by rw [h1]; decide)
      rw [e]
      exact ⟨.inl ⟨rfl, rfl⟩, rfl⟩
  rw [hmd.2]
  have hbl := begin_line x
  have hbo := begin_ok h
  unfold folioref04_lexer__text
  have hL := rtext_loop (l := l) (by omega) (x.line : Int) _ (fun _ => rfl) l.length 0 n (beginS x) p q (by omega) (by omega) hbo (by omega) hmd.1 (by rw [hbl])
  have e0 : l.drop 0 = l := rfl
  rw [e0] at hL
  rcases hL with ⟨w, p', q', x', f0, f1, f2, f3⟩ | ⟨y, p', q', f1, f2, f3, f4, f5, f6⟩
  · have f1 : loopC _ ((0 : Int), rx p q (beginS x)) = _ := f1
    rw [f1, f3]
    exact ⟨f0, p', q', x', rfl, f2⟩
  · have f1 : loopC _ ((0 : Int), rx p q (beginS x)) = _ := f1
    have hw : IntKind.wrap .i64 (((l.length : Nat) : Int) + 1) = ((l.length + 1 : Nat) : Int) := wrapS (by omega)
    rw [f1, f2]
    have hyl : y.line = x.line := f5.trans hbl
    -- a line that is not blank begins a paragraph
    have hin : y.ins = true := by
      have := text_ins 0 (beginS x) _ 1 l f2
      rw [wait_ins] at this
      rw [this]; exact hins
    have hp' : p' = true ∧ q' = y.fresh := by
      rcases f4 with f4 | ⟨rfl, rfl, g1, g2, g3⟩
      · exact f4
      · exact absurd ((trim_nil l).2 (f6 rfl).2) hnb
    obtain ⟨rfl, rfl⟩ := hp'
    have hpz := pause_eq (x := y) true y.fresh ((l.length + 1 : Nat) : Int) (.inl ⟨rfl, rfl⟩)
    rw [hyl] at hpz
    simp only [Option.bind_some, onSum, hw, hpz]
    have hwf : (waitS y ((l.length + 1 : Nat) : Int)).fresh = y.fresh := by unfold waitS; split <;> rfl
    exact ⟨true, y.fresh, rfl, wait_ok (f3.mono (by omega)) _ (by omega), .inr ⟨by rw [wait_ins]; exact hin, rfl, hwf.symm⟩, by rw [wait_line]; exact hyl⟩
end Go.Fn
/- Chapter 4, plainly: any source: its tokens, or its first fault. -/
namespace Go.Fn
open Go Go.Lf
theorem rline_eq {x : Lx} {n : Nat} (h : x.Ok n) (p q : Bool) (hr : Lr x p q) (l : Bs) (hl : l.length ≤ 65536) (hn : n ≤ 70000000) : LnR (folioref04_lexer__line (rx p q x) l (x.line : Int)) (takeS x l) x.line (n + 8 * l.length + 2) := by
  unfold folioref04_lexer__line takeS chkS
  by_cases h4 : 4096 < l.length
  · have h4' : (4096 : Int) < ((l.length : Nat) : Int) := by omega
    simp only [h4', decide_true, cond_true, fail_eq, Option.bind_some, if_pos h4]
    exact ⟨(show (2 : Int) ≠ 0 by decide), p, q, x, rfl, h.mono (by omega)⟩
  · have h4' : ¬ (4096 : Int) < ((l.length : Nat) : Int) := by omega
    have hb := plainF_le ⟨(untab l).toArray⟩ (untab l).length 0
    have hsz2 : (⟨(untab l).toArray⟩ : ByteArray).size = l.length := (Eng.str_size (untab l)).trans (untab_len l)
    rw [hsz2] at hb
    simp only [h4', decide_false, cond_false, if_neg h4]
    rw [bad_eq l (by omega)]
    cases hpl : (plainS (untab l)).2 with
    | false =>
      have hw : IntKind.wrap .i64 ((plainS (untab l)).1 + 1) = (plainS (untab l)).1 + 1 := by
        unfold plainS
        rw [wrap64 (by omega) (by omega)]
      simp only [Option.bind_some, Bool.false_eq_true, if_false, cond_true, hw, fail_eq]
      exact ⟨(show (40 : Int) ≠ 0 by decide), p, q, x, rfl, h.mono (by omega)⟩
    | true =>
      simp only [Option.bind_some, if_true, cond_false]
      have h35 : (bif (decide ((l : List (UInt8)) ≠ ([] : List (UInt8)))) then ((Go.Lf.idx l (0 : Int))).bind fun r4 =>
   some ((decide (((((UInt8.toNat r4) : Nat) : Int) : Int) = (35 : Int))), rx p q x)
   else some (false, rx p q x)) = some (Lib.hasPrefix l [35], rx p q x) := by
        cases l with
        | nil => rfl
        | cons b r =>
          have hg : idx (b :: r) (0 : Int) = some b := idx_nat (b :: r) 0
          have c1 : decide (((b.toNat : Nat) : Int) = 35) = (b == 35) := nat8 _ 35
          simp only [ne_eq, reduceCtorEq, not_false_eq_true, decide_true, cond_true, hg, Option.bind_some, c1, pre35]
          rfl
      rw [h35]
      simp only [Option.bind_some]
      cases hpp : Lib.hasPrefix l [35] with
      | true =>
        refine ⟨p, q, rfl, h.mono (by omega), hr, rfl⟩
      | false =>
        simp only [cond_false, strip_eq l (by omega), Option.bind_some, Bool.false_eq_true, if_false]
        by_cases ht : Lib.trimS l [32, 9] = []
        · simp only [ht, decide_true, cond_true, if_true]
          rcases rend_eq h p q hr (by omega) with ⟨w, p', q', x', e1, e2, e3, e4⟩ | ⟨y, e1, e2, e3, e4, e5⟩
          · rw [e2, e3]
            have ho := e4.out
            have ha : app 56 x'.out [((2 : Int), ([] : Bs), ([] : Bs), ((x.line : Nat) : Int), (1 : Int), ())] = some (x'.out ++ [((2 : Int), ([] : Bs), ([] : Bs), ((x.line : Nat) : Int), (1 : Int), ())]) := app_of (by simp; omega)
            have e0 : (rxW (some w) p' q' x').1 = x'.out := rfl
            simp only [Option.bind_some, e0, ha]
            refine ⟨e1, p', q', { x' with out := x'.out ++ [((2 : Int), ([] : Bs), ([] : Bs), ((x.line : Nat) : Int), (1 : Int), ())] }, rfl, ?_, e4.opn, (e4.mono (by omega)).run, e4.bl⟩
            simp; omega
          · rw [e1, e5]
            have ho := e2.out
            have ha : app 56 y.out [((2 : Int), ([] : Bs), ([] : Bs), ((x.line : Nat) : Int), (1 : Int), ())] = some (y.out ++ [((2 : Int), ([] : Bs), ([] : Bs), ((x.line : Nat) : Int), (1 : Int), ())]) := app_of (by simp; omega)
            have e0 : (rx false false y).1 = y.out := rfl
            simp only [Option.bind_some, e0, ha]
            rw [e4]
            refine ⟨false, false, rfl, ⟨by simp; omega, e2.opn, (e2.mono (by omega)).run, e2.bl⟩, e3, by first | exact e4 | rfl⟩
        · have hne : l ≠ [] := fun e => ht (by rw [e]; rfl)
          obtain ⟨b, r, rfl⟩ := List.exists_cons_of_ne_nil hne
          have hg : idx (b :: r) (0 : Int) = some b := idx_nat (b :: r) 0
          have c1 : decide (((b.toNat : Nat) : Int) = 46) = (b == 46) := nat8 _ 46
          simp only [ht, decide_false, cond_false, if_false, hg, Option.bind_some, c1, List.head?_cons, Option.some.injEq]
          by_cases hb46 : b = 46
          · have hD := rdir_eq h p q hr (b :: r) hl hne (by omega)
            have hb' : (b == 46) = true := by simpa using hb46
            simp only [hb', cond_true, if_pos hb46]
            cases hdir : dirS x (b :: r) with
            | error w =>
              rw [hdir] at hD
              obtain ⟨e1, p', q', x', e2, e3⟩ := hD
              rw [e2]
              exact ⟨e1, p', q', x', rfl, e3.mono (by omega)⟩
            | ok y =>
              rw [hdir] at hD
              obtain ⟨p', q', e2, e3, e4, e5⟩ := hD
              rw [e2]
              exact ⟨p', q', rfl, e3.mono (by omega), e4, e5⟩
          · have hD := rtext_eq h p q hr (b :: r) hl ht (by omega)
            have hb' : (b == 46) = false := by simpa using hb46
            simp only [hb', cond_false, if_neg hb46]
            cases hdir : textS 0 (beginS x) 1 (b :: r) with
            | error w =>
              rw [hdir] at hD
              obtain ⟨e1, p', q', x', e2, e3⟩ := hD
              rw [e2]
              exact ⟨e1, p', q', x', rfl, e3.mono (by omega)⟩
            | ok y =>
              rw [hdir] at hD
              obtain ⟨p', q', e2, e3, e4, e5⟩ := hD
              rw [e2]
              exact ⟨p', q', rfl, e3.mono (by omega), e4, e5⟩
theorem crS_len (l : Bs) : (crS l).length ≤ l.length := cr_len l
theorem rlex_loop {M : List Bs} (hM : M.length ≤ 70000) (hMl : ∀ l ∈ M, l.length ≤ 65536) (W0 : Int × Int × Int × Bs × Unit) (B : Int × (RxT × (Int × Int × Int × Bs × Unit)) → Option ((Int × (RxT × (Int × Int × Int × Bs × Unit))) ⊕ ((Int × Int × Int × Bs × Unit) × RxT))) (hB : ∀ z2, B z2 = ((bif (decide (z2.1 < (((List.length (M.map crS)) : Nat) : Int))) then some ((decide ((z2.2.1.2.1.1 : Int) = (0 : Int))), (z2.2.1, z2.2.2))
       else some (false, (z2.2.1, z2.2.2))).bind fun r3 =>
     bif r3.1 then ((Go.Lf.idx (M.map crS) z2.1)).bind fun r4 =>
     ((Go.Fn.folioref04_lexer__line r3.2.1 r4 (Go.IntKind.wrap .i64 (z2.1 + (1 : Int))))).bind fun r5 =>
     some (.inl ((Go.IntKind.wrap .i64 (z2.1 + (1 : Int))), (r5, r3.2.2)))
     else some (.inr (r3.2.2, r3.2.1)))) : ∀ (m i n : Nat) (x : Lx) (p q : Bool), i + m = M.length → x.Ok n → x.line = i → Lr x p q → n + 10 * ((M.drop i).map List.length).sum + 10 * m ≤ 60000000 →
      (∃ (w : Wr) (p' q' : Bool) (x' : Lx), w.code ≠ 0 ∧ loopC B ((i : Int), (rx p q x, W0)) = some (W0, rxW (some w) p' q' x') ∧ x'.Ok 60000000 ∧ linesK x (M.drop i) = .error w) ∨
      (∃ (y : Lx) (p' q' : Bool), loopC B ((i : Int), (rx p q x, W0)) = some (W0, rx p' q' y) ∧ y.Ok 60000000 ∧ Lr y p' q' ∧ linesK x (M.drop i) = .ok y)
  | 0, i, n, x, p, q, hm, h, hl, hr, hn => by
    have h0 : ¬ (i : Int) < (((M.map crS).length : Nat) : Int) := by rw [List.length_map]; omega
    refine .inr ⟨x, p, q, ?_, h.mono (by omega), hr, by rw [List.drop_eq_nil_of_le (by omega)]; rfl⟩
    rw [loopC_step, hB]
    simp only [h0, decide_false, cond_false, Option.bind_some]
  | m + 1, i, n, x, p, q, hm, h, hl, hr, hn => by
    have hlt : i < M.length := by omega
    have h0 : (i : Int) < (((M.map crS).length : Nat) : Int) := by rw [List.length_map]; omega
    have hg : idx (M.map crS) (i : Int) = some (crS M[i]) := by rw [idx_nat, List.getElem?_map, List.getElem?_eq_getElem hlt]; rfl
    have hw : IntKind.wrap .i64 ((i : Int) + 1) = ((i + 1 : Nat) : Int) := wrapS (by omega)
    have hd : M.drop i = M[i] :: M.drop (i + 1) := List.drop_eq_getElem_cons hlt
    have hml := hMl M[i] (List.getElem_mem hlt)
    have hcr := cr_len M[i]
    rw [hd] at hn ⊢
    simp only [List.map_cons, List.sum_cons] at hn
    have hxn : (nextL x).Ok n := ⟨h.out, h.opn, h.run, h.bl⟩
    have hrn : Lr (nextL x) p q := hr
    have hline := rline_eq hxn p q hrn (crS M[i]) (by omega) (by omega)
    have hnl : (((nextL x).line : Nat) : Int) = ((i + 1 : Nat) : Int) := by show ((x.line + 1 : Nat) : Int) = _; rw [hl]
    rw [hnl] at hline
    have hwr : (rx p q x).2.1.1 = 0 := rfl
    have hrx : rx p q x = rx p q (nextL x) := rfl
    have hB1 : B ((i : Int), (rx p q x, W0)) = (folioref04_lexer__line (rx p q (nextL x)) (crS M[i]) ((i + 1 : Nat) : Int)).bind fun r5 => some (.inl (((i + 1 : Nat) : Int), (r5, W0))) := by
      rw [hB]
      simp only [h0, decide_true, cond_true, Option.bind_some, hwr, hg, hw]
      rfl
    rw [linesK]
    cases ht : takeS (nextL x) (crS M[i]) with
    | error w =>
      rw [ht] at hline
      obtain ⟨e1, p', q', x', e2, e3⟩ := hline
      have hs : loopC B ((i : Int), (rx p q x, W0)) = loopC B (((i + 1 : Nat) : Int), (rxW (some w) p' q' x', W0)) := by
        rw [loopC_step, hB1, e2]
        rfl
      refine .inl ⟨w, p', q', x', e1, ?_, e3.mono (by omega), rfl⟩
      rw [hs, loopC_step, hB]
      have hwc : ¬ (rxW (some w) p' q' x').2.1.1 = 0 := e1
      by_cases h1 : ((i + 1 : Nat) : Int) < (((M.map crS).length : Nat) : Int)
      · simp only [h1, decide_true, cond_true, Option.bind_some, hwc, decide_false, cond_false]
      · simp only [h1, decide_false, cond_false, Option.bind_some]
    | ok y =>
      rw [ht] at hline
      obtain ⟨p', q', e2, e3, e4, e5⟩ := hline
      have hs : loopC B ((i : Int), (rx p q x, W0)) = loopC B (((i + 1 : Nat) : Int), (rx p' q' y, W0)) := by
        rw [loopC_step, hB1, e2]
        rfl
      rw [hs]
      have hyl : y.line = i + 1 := by rw [e5]; show x.line + 1 = _; rw [hl]
      exact rlex_loop hM hMl W0 B hB m (i + 1) (n + 8 * (crS M[i]).length + 2) y p' q' (by omega) e3 hyl e4 (by omega)
def lexW : Except Wr (List Tok) → List Tok × (Int × Int × Int × Bs × Unit)
  | .ok t => (t, wrT none)
  | .error w => ([], wrT (some w))
theorem linesA_mem2 : ∀ (s cur : Bs), ∀ l ∈ linesA cur s, l.length ≤ cur.length + s.length
  | [], cur, l, h => by
    unfold linesA at h
    split at h
    · cases h
    · simp at h; subst h; simp
  | b :: r, cur, l, h => by
    unfold linesA at h
    split at h
    · rcases List.mem_cons.1 h with rfl | h
      · omega
      · have := linesA_mem2 r [] l h
        simp at this ⊢; omega
    · have := linesA_mem2 r (cur ++ [b]) l h
      simp at this ⊢; omega
theorem linesA_le2 : ∀ (s cur : Bs), (linesA cur s).length ≤ s.length + 1
  | [], cur => by
    unfold linesA
    split <;> simp
  | b :: r, cur => by
    unfold linesA
    split
    · have := linesA_le2 r []
      simp; omega
    · have := linesA_le2 r (cur ++ [b])
      simp; omega
theorem linesA_sum2 : ∀ (s cur : Bs), ((linesA cur s).map List.length).sum ≤ cur.length + s.length
  | [], cur => by
    unfold linesA
    split <;> simp
  | b :: r, cur => by
    unfold linesA
    split
    · have := linesA_sum2 r []
      simp at this ⊢; omega
    · have := linesA_sum2 r (cur ++ [b])
      simp at this ⊢; omega
theorem rlex_eq (s : Bs) : folioref04_Lex s = some (lexW (lexS s)) := by
  unfold folioref04_Lex lexS
  by_cases h : 65536 < s.length
  · have h' : (65536 : Int) < ((s.length : Nat) : Int) := by omega
    rw [if_pos h]
    simp only [h', decide_true, cond_true]
    rfl
  · have h' : ¬ (65536 : Int) < ((s.length : Nat) : Int) := by omega
    rw [if_neg h]
    simp only [h', decide_false, cond_false]
    rw [lines_eq s (by omega)]
    simp only [Option.bind_some]
    have hmem := linesA_mem2 s []
    have hlen := linesA_le2 s []
    have hsum := linesA_sum2 s []
    have hL := rlex_loop (M := linesA [] s) (by omega) (fun l hl => by have := hmem l hl; simp at this; omega) (0, 0, 0, [], ()) _ (fun _ => rfl) (linesA [] s).length 0 0 lx0 false false (by omega) lx0_ok rfl (.inl ⟨rfl, rfl, rfl, rfl, rfl, rfl⟩) (by
      rw [List.drop_zero]
      simp at hsum
      omega)
    rw [List.drop_zero] at hL
    rcases hL with ⟨w, p', q', x', e1, e2, e3, e4⟩ | ⟨y, p', q', e1, e2, e3, e4⟩
    · have e2 : loopC _ ((0 : Int), ((([] : List Tok), (((0 : Int), ((0 : Int), ((0 : Int), (([] : Bs), ())))), (false, (([] : List Tok), (((0 : Int), (([] : Bs), (([] : Bs), ((0 : Int), ((0 : Int), ()))))), (([] : List Int), (((0 : Int), (([] : Bs), (([] : Bs), ((0 : Int), ((0 : Int), ()))))), (false, ())))))))), ((0 : Int), ((0 : Int), ((0 : Int), (([] : Bs), ())))))) = _ := e2
      rw [e2, e4]
      simp only [Option.bind_some]
      obtain ⟨p2, q2, x2, e5⟩ := rend_err e3 w e1 p' q' (by omega)
      have hwc : (rxW (some w) p2 q2 x2).2.1.1 ≠ 0 := e1
      simp only [e5, Option.bind_some, hwc, ne_eq, not_false_eq_true, decide_true, cond_true]
      rfl
    · have e1 : loopC _ ((0 : Int), ((([] : List Tok), (((0 : Int), ((0 : Int), ((0 : Int), (([] : Bs), ())))), (false, (([] : List Tok), (((0 : Int), (([] : Bs), (([] : Bs), ((0 : Int), ((0 : Int), ()))))), (([] : List Int), (((0 : Int), (([] : Bs), (([] : Bs), ((0 : Int), ((0 : Int), ()))))), (false, ())))))))), ((0 : Int), ((0 : Int), ((0 : Int), (([] : Bs), ())))))) = _ := e1
      rw [e1, e4]
      simp only [Option.bind_some]
      rcases rend_eq e2 p' q' e3 (by omega) with ⟨w, p2, q2, x2, f1, f2, f3, f4⟩ | ⟨z, f1, f2, f3, f4, f5⟩
      · rw [f2, f3]
        have hwc : (rxW (some w) p2 q2 x2).2.1.1 ≠ 0 := f1
        simp only [Option.bind_some, hwc, ne_eq, not_false_eq_true, decide_true, cond_true]
        rfl
      · rw [f1, f5]
        have hwc : (rx false false z).2.1.1 = 0 := rfl
        simp only [Option.bind_some, hwc, ne_eq, not_true_eq_false, decide_false, cond_false]
        rfl
theorem told_ok (w : Wr) (hw : w.code ≠ 0) : foliolaw04_told w.e (wrT (some w)) = some true := by
  unfold foliolaw04_told fault_Told fault_All fault_gather fault_Error__is
  have hg : ∀ y : Int × Int × Int × Int × Bs × List (Bs × Int × Unit) × Unit, idx [y] (0 : Int) = some y := fun y => idx_nat [y] 0
  simp [Wr.e, wrT, hw, app, hg]
theorem wr_code {s : Bs} {w : Wr} (h : lexS s = .error w) : w.code ≠ 0 := by
  unfold lexS at h
  by_cases hl : 65536 < s.length
  · rw [if_pos hl] at h
    cases h
    exact (show (2 : Int) ≠ 0 by decide)
  · rw [if_neg hl] at h
    have hmem := linesA_mem2 s []
    have hlen := linesA_le2 s []
    have hsum := linesA_sum2 s []
    have hL := rlex_loop (M := linesA [] s) (by omega) (fun l hl => by have := hmem l hl; simp at this; omega) (0, 0, 0, [], ()) _ (fun _ => rfl) (linesA [] s).length 0 0 lx0 false false (by omega) lx0_ok rfl (.inl ⟨rfl, rfl, rfl, rfl, rfl, rfl⟩) (by
      rw [List.drop_zero]
      simp at hsum
      omega)
    rw [List.drop_zero] at hL
    rcases hL with ⟨w', p', q', x', e1, e2, e3, e4⟩ | ⟨y, p', q', e1, e2, e3, e4⟩
    · rw [e4] at h
      cases h
      exact e1
    · rw [e4] at h
      simp only at h
      rcases rend_eq e2 p' q' e3 (by omega) with ⟨w', p2, q2, x2, f1, f2, f3, f4⟩ | ⟨z, f1, f2, f3, f4, f5⟩
      · rw [f2] at h
        cases h
        exact f1
      · rw [f1] at h
        cases h
theorem lex_small {s : Bs} {t : List Tok} (h : lexS s = .ok t) : t.length ≤ 1000000000 := by
  have hl := lex_len h
  have hL := lex_loop _ (fun _ => rfl) s.length 0 s lx0 (Nat.le_refl _) hl lx0_ok (by show 0 + s.length ≤ _; omega) (by omega)
  unfold lexS at h
  rw [if_neg (by omega)] at h
  rcases hL with ⟨w, _, q2⟩ | ⟨y, _, q2, q3⟩
  · rw [q2] at h; cases h
  · rw [q2] at h
    simp only at h
    cases he : endS y with
    | error w => rw [he] at h; cases h
    | ok z =>
      rw [he] at h
      cases h
      have := (end_ok (m := 0 + 10 * s.length + 1) q3 (Nat.le_refl _) he).out
      omega
theorem lexes_law (s : Bs) : foliolaw04_MarkLexes s = some true := by
  unfold foliolaw04_MarkLexes
  rw [lex_eq, rlex_eq]
  simp only [Option.bind_some]
  cases h : lexS s with
  | error w =>
    simp only [lexR, lexW]
    rw [told_ok w (wr_code h)]
    simp only [Option.bind_some, cond_true]
    rw [same_refl _ (by simp), awake]
    rfl
  | ok t =>
    simp only [lexR, lexW]
    have ht : foliolaw04_told (none : ErrT) (wrT none) = some true := rfl
    rw [ht]
    simp only [Option.bind_some, cond_true]
    rw [same_refl _ (lex_small h), awake]
    rfl
end Go.Fn
/-
  From a function's entry to a row's statement: the arguments are opened, nothing old has turned, so all reads as before.
-/
namespace Go.Lf
open Go Go.Eng Go.RowKit Go.ChangeShapes Go.WideShapes Go.ChangeMaps Go.ChangeAt

section
variable {H : Type} {enc : TypeId × Value → H} {P : Program}
def allRead (P : Program) (ts : List TypeId) : Bool := ts.all fun t => P.readableRec t && decide (t < P.types.size)
theorem trodAll_stay (hl : laidOutB P = true) {W W' : World} (hb : Below W.heap.size W W') : ∀ (ts : List TypeId) (vs : List Value) (ds : List (DataW H)) (ps : List MemPlace), allRead P ts = true →
    DataW.TrodAll enc P W 0 (fun _ => true) true ts vs ds ps → (∀ x ∈ ps, x.block < W.heap.size) → DataW.TrodAll enc P W' 0 (fun b => decide (b < W.heap.size)) true ts vs ds ps
  | [], [], [], _, _, h, _ => h
  | [], _ :: _, _, _, _, h, _ => h.elim
  | [], [], _ :: _, _, _, h, _ => h.elim
  | _ :: _, [], _, _, _, h, _ => h.elim
  | _ :: _, _ :: _, [], _, _, h, _ => h.elim
  | t :: ts, v :: vs, d :: ds, ps, hr, h, hlt => by
    obtain ⟨p, q, h1, h2, rfl⟩ := h
    simp only [allRead, List.all_cons, Bool.and_eq_true, decide_eq_true_eq] at hr
    exact ⟨p, q, Below.trod hl hr.1.1 hr.1.2 h1 hb (fun x hx => hlt x (List.mem_append_left _ hx)), trodAll_stay hl hb ts vs ds q hr.2 h2 (fun x hx => hlt x (List.mem_append_right _ hx)), rfl⟩
/-- The law answered true, and nothing old has turned. -/
theorem law_post {f : Func} {s : ChangeSpec} {W W' : World} {args : Array Value} {ds gs : List (DataW H)} {before : List MemPlace} {tb : TypeId} (hl : laidOutB P = true) (hr : allRead P f.params.toList = true) (hv : s.vars = [])
    (hres : f.resultTypes = #[tb]) (htb : P.underlying tb = some .bool) (hW : DataW.Whole enc P f.params.toList s.vars false W args.toList ds gs before)
    (hs : s.fn H (ds ++ gs) = { results := [.lit (.bool true)], args := ds, vars := [] }) (hb : Below W.heap.size W W') : s.post enc P f false true false false W args (.bool true) W' := by
  have hlt : ∀ p ∈ before, p.block < W.heap.size := fun p hp => hW.lt p hp
  have hW0 := hW
  obtain ⟨p, q, hA, hV, hps, _, _⟩ := hW
  rw [hv] at hV
  obtain ⟨rfl, rfl⟩ := trodVars_none hV
  refine ⟨ds, [], before, [], p, [], hW0, ?_, ?_, ?_, hb.frame _, fun h => by cases h⟩
  · rw [hs, hres]
    exact trodAll_mk1 (shut_bool htb true)
  · rw [hs]
    exact trodAll_stay hl hb _ _ _ _ hr hA (fun x hx => hlt x (by rw [hps]; exact List.mem_append_left _ hx))
  · rw [hs, hv]
    rfl
end

/-- The state that a law begins with. -/
def start (W : World) : Cx := ⟨W, [], fun _ => none⟩
def Lasts (W : World) (I : World → Prop) : Prop := ∀ w', Below W.heap.size W w' → I w'
theorem Lasts.and {W : World} {I J : World → Prop} (h : Lasts W I) (k : Lasts W J) : Lasts W (fun w => I w ∧ J w) := fun w' hb => ⟨h w' hb, k w' hb⟩
theorem Lasts.of {W : World} {p : Prop} (h : p) : Lasts W (fun _ => p) := fun _ _ => h
theorem hb_start {W : World} {I : World → Prop} (h : Lasts W I) : Hb (start W) (start W).w0 [] I :=
  ⟨⟨rfl, rfl, rfl, Nat.le_refl _, fun _ _ _ => rfl, fun c hc => absurd hc (by simp [start]), fun c hc => absurd hc (by simp [start]), fun c hc => absurd hc (by simp), fun c hc => absurd hc (by simp), List.Pairwise.nil, fun k m hk => by cases hk⟩,
   fun w' hx => h w' ⟨hx.os, hx.tape, hx.output, hx.size, fun k hk => hx.block k hk rfl (fun c hc => absurd hc (by simp))⟩⟩
theorem cell_lt {W : World} {a : Addr} {v : Value} (h : W.cell? a = some v) : a.block < W.heap.size := by
  rcases Nat.lt_or_ge a.block W.heap.size with h1 | h1
  · exact h1
  · simp [World.cell?, Array.getElem?_eq_none h1] at h
/-- all memory, as it lies -/
def phiOf (W : World) : Phi := fun a => W.cell? a
theorem lasts_agree (W : World) : Lasts W (Agree (phiOf W)) := fun _ hb a _ h => (hb.cell (cell_lt h)).trans h
theorem lasts_var {P : Program} {W : World} {name : String} {cs : Array Value} (h : W.var? P name = some cs) : Lasts W (fun w => w.var? P name = some cs) := fun w' hb => by
  unfold World.var? at *
  cases hg : P.globalNamed name with
  | none => rw [hg] at h; simp at h
  | some g =>
    rw [hg] at h
    simp only [Option.bind_some] at *
    by_cases hlt : g < W.heap.size
    · rw [hb.block g hlt]; exact h
    · rw [Array.getElem?_eq_none (by omega)] at h; simp at h
theorem law_calls {P : Program} {G : World → Prop} {f : Nat} {e : Entry} {z : prodT (e.ps.map Par.ty)} {W : World} {vals : List Value} (he : EntryOk P G f e) (hr : e.rs = [.bool]) (ho : outs e.ps = []) {r : prodT (e.rs ++ outs e.ps)} (hz : e.f z = some r) (ht : unProd (e.rs ++ outs e.ps) r = [⟨.bool, true⟩])
    (ha : ArgsR (phiOf W) e.ps z vals [] []) (hG : Lasts W G) : Calls P f vals.toArray W fun e W' => e = .returned (.bool true) ∧ Below W.heap.size W W' := by
  refine Calls.mono (he.ok z r hz (start W) (phiOf W) vals [] [] ha (hb_start (hG.and (lasts_agree W)))) ?_
  rintro x w' ⟨v, φ', h1, h2, rfl, _, hb, ⟨vs, hv, rfl⟩, _⟩
  rw [ht, hr] at hv
  refine ⟨?_, hb.hp.os, hb.hp.tape, hb.hp.output, hb.hp.size, fun k hk => hb.hp.keep k hk (by simp [start, free])⟩
  cases hv with
  | cons a1 a2 a3 =>
    cases a3
    obtain ⟨rfl, _⟩ := a2
    rfl

/-! ### The arguments -/
section
variable {H : Type} (enc : TypeId × Value → H) (P : Program) (W : World)
def Light (P : Program) (t : TypeId) (d : DataW H) : Prop := ∀ x ∈ d.weights P t, x ≤ reachBytes
end
def rnd (o a : Nat) : Nat := (o + a - 1) / a * a
/-- how a type lies in bytes: its alignment -/
def Ty.aln : Ty → Nat
  | .int k => k.bits / 8
  | .bool => 1
  | .unit => 1
  | .st t => t.aln
  | .pr a b => max a.aln b.aln
  | _ => 8
mutual
def Ty.byt : Ty → Nat
  | .int k => k.bits / 8
  | .bool => 1
  | .str => 16
  | .sl _ => 24
  | .rw _ _ => 24
  | .mr _ _ => 24
  | .it => 8
  | .itd => 8
  | .dead _ _ => 24
  | .eb _ _ => 16
  | .op _ => 8
  | .ptr _ => 8
  | .st t => rnd (t.end_ 0) t.aln
  | _ => 0
/-- the end of a struct's fields from an offset on -/
def Ty.end_ : Ty → Nat → Nat
  | .pr a b, o => b.end_ (rnd o a.aln + a.byt)
  | _, o => o
end
/-- numbers that are of their kinds, lengths that lie in memory -/
def Wf : (t : Ty) → t.den → Prop
  | .int k, x => k.min ≤ x ∧ x ≤ k.max
  | .str, x => List.length x ≤ 140737488351232
  | .sl t, l => List.length l * t.byt ≤ 140737488351232 ∧ ∀ x ∈ (l : List t.den), Wf t x
  | .st t, x => Wf t x
  | .pr a b, x => Wf a x.1 ∧ Wf b x.2
  | _, _ => True
/-- a type's number says this type -/
def opB (P : Program) : Ty → TypeId ⊕ (List Field × Nat) → Bool
  | .int k, .inl t => match P.underlying t with | some (.int k') => decide (k = k') | _ => false
  | .bool, .inl t => match P.underlying t with | some .bool => true | _ => false
  | .str, .inl t => match P.underlying t with | some .string => true | _ => false
  | .sl a, .inl t => match P.underlying t with | some (.slice e) => Nat.beq (P.cellsOf e) a.size && Nat.blt 0 a.size && Nat.beq (P.bytesOf e) a.byt && opB P a (.inl e) | _ => false
  | .st c, .inl t => match P.underlying t with | some (.struct fs) => Nat.beq (P.cellsOf t) c.size && opB P c (.inr (fs.toList, 0)) | _ => false
  | .pr a b, .inr (f :: fs, o) => Nat.beq f.offset o && Nat.beq (P.cellsOf f.type) a.size && opB P a (.inl f.type) && opB P b (.inr (fs, o + a.size))
  | .unit, .inr ([], _) => true
  | _, _ => false

section
variable {H : Type} (enc : TypeId × Value → H) (P : Program) (W : World)
def OpnT (t : TypeId) (a : Ty) : Prop :=
  ∀ fuel cs d ps, DataW.trod enc P W 0 (fun _ => true) true fuel t cs = some (d, ps) → Light P t d → ∃ x : a.den, Rp (phiOf W) a x cs [] ∧ Wf a x
def OpnF (size o : Nat) (fs : List Field) (a : Ty) : Prop :=
  ∀ (n : Nat) (cs : List Value) (xs : List (DataW H × List MemPlace)), cs.length = size → xs.length = fs.length →
    (∀ (i : Nat) (f : Field), fs[i]? = some f → DataW.trod enc P W 0 (fun _ => true) true n f.type ((cs.drop f.offset).take (P.cellsOf f.type)) = xs[i]?) →
    (∀ (i : Nat) (f : Field) y, fs[i]? = some f → xs[i]? = some y → Light P f.type y.1) → o + a.size = size → ∃ x : a.den, Rp (phiOf W) a x (cs.drop o) [] ∧ Wf a x
end
section
variable {H : Type} {enc : TypeId × Value → H} {P : Program} {W : World} {t e : TypeId}
theorem light_slice {es sp : List (DataW H)} (ht : P.underlying t = some (.slice e)) (hl : Light P t (.slice es sp)) : es.length * P.bytesOf e ≤ 140737488351232 ∧ ∀ d ∈ es, Light P e d := by
  unfold Light at hl
  simp only [DataW.weights, ht] at hl
  have h7 : reachBytes = 140737488351232 := by decide
  constructor
  · have h1 := hl _ (List.mem_cons_self ..)
    have h2 : es.length * P.bytesOf e ≤ (es.length + sp.length) * P.bytesOf e := Nat.mul_le_mul_right _ (by omega)
    omega
  · intro d hd x hx
    refine hl x (List.mem_cons_of_mem _ (List.mem_append_left _ ?_))
    clear hl
    induction es with
    | nil => cases hd
    | cons a r ih =>
      simp only [DataW.weightsAll]
      rcases List.mem_cons.1 hd with rfl | h
      · exact List.mem_append_left _ hx
      · exact List.mem_append_right _ (ih h)
theorem light_agg {fs : Array Field} {ds : List (DataW H)} (ht : P.underlying t = some (.struct fs)) (hl : Light P t (.agg ds)) : ∀ (i : Nat) (f : Field) y, fs.toList[i]? = some f → ds[i]? = some y → Light P f.type y := by
  unfold Light at hl
  simp only [DataW.weights, ht] at hl
  have key : ∀ (l : List Field) (ds : List (DataW H)), (∀ x ∈ DataW.weightsEach P (l.map (·.type)) ds, x ≤ reachBytes) → ∀ (i : Nat) (f : Field) y, l[i]? = some f → ds[i]? = some y → Light P f.type y := by
    intro l
    induction l with
    | nil => intro ds _ i f y h; simp at h
    | cons g r ih =>
      intro ds hl i f y hf hy
      cases ds with
      | nil => simp at hy
      | cons d q =>
        simp only [List.map_cons, DataW.weightsEach] at hl
        cases i with
        | zero =>
          simp at hf hy
          subst hf hy
          exact fun x hx => hl x (List.mem_append_left _ hx)
        | succ i => exact ih q (fun x hx => hl x (List.mem_append_right _ hx)) i f y (by simpa using hf) (by simpa using hy)
  exact key fs.toList ds hl
theorem list_choose {α : Type} {p : Nat → α → Prop} : ∀ n, (∀ i, i < n → ∃ x, p i x) → ∃ l : List α, l.length = n ∧ ∀ i x, l[i]? = some x → p i x
  | 0, _ => ⟨[], rfl, fun i x h => by simp at h⟩
  | n + 1, h => by
    obtain ⟨l, h1, h2⟩ := list_choose n (fun i hi => h i (by omega))
    obtain ⟨x, hx⟩ := h n (by omega)
    refine ⟨l ++ [x], by simp [h1], fun i y hy => ?_⟩
    by_cases hi : i < n
    · rw [List.getElem?_append_left (by omega)] at hy; exact h2 i y hy
    · rw [List.getElem?_append_right (by omega)] at hy
      have h3 : i = n := by
        have := (List.getElem?_eq_some_iff.1 hy).1
        simp at this; omega
      subst h3
      rw [h1, Nat.sub_self] at hy
      simp at hy
      subst hy; exact hx
theorem all2_of {α β : Type} {R : α → β → Prop} : ∀ {l : List α} {m : List β}, l.length = m.length → (∀ (i : Nat) x y, l[i]? = some x → m[i]? = some y → R x y) → All2 R l m
  | [], [], _, _ => .nil
  | [], _ :: _, h, _ => by simp at h
  | _ :: _, [], h, _ => by simp at h
  | x :: l, y :: m, h, hR => .cons (hR 0 x y rfl rfl) (all2_of (by simpa using h) fun i a b ha hb => hR (i + 1) a b (by simpa using ha) (by simpa using hb))
/-- cells of a flat list of lists of one length -/
theorem flat_at {s : Nat} (hs : 0 < s) : ∀ (l : List (List Value)), (∀ c ∈ l, c.length = s) → ∀ (j : Nat) (v : Value), l.flatten[j]? = some v → ∃ i k c, j = i * s + k ∧ l[i]? = some c ∧ c[k]? = some v
  | [], _, j, v, h => by simp at h
  | d :: r, hl, j, v, h => by
    have h1 := hl d List.mem_cons_self
    rw [List.flatten_cons] at h
    by_cases hj : j < s
    · rw [List.getElem?_append_left (by omega)] at h
      exact ⟨0, j, d, by omega, rfl, h⟩
    · rw [List.getElem?_append_right (by omega), h1] at h
      obtain ⟨i, k, c, e1, e2, e3⟩ := flat_at hs r (fun c hc => hl c (List.mem_cons_of_mem _ hc)) (j - s) v h
      exact ⟨i + 1, k, c, by rw [Nat.succ_mul]; omega, by simpa using e2, e3⟩

theorem opn_ok : ∀ (a : Ty), (∀ t, opB P a (.inl t) = true → OpnT enc P W t a) ∧ (∀ fs o size, opB P a (.inr (fs, o)) = true → OpnF enc P W size o fs a)
  | .int k => by
    refine ⟨fun t h => ?_, fun fs o size h => by cases fs <;> simp [opB] at h⟩
    · skip
      unfold opB at h
      split at h
      · rename_i k' hu
        have h := of_decide_eq_true h
        subst h
        intro fuel cs d ps ht _
        obtain ⟨n, h1, h2, h3⟩ := DataW.trod_int hu ht
        exact ⟨n, ⟨h1, rfl⟩, by
          have h4 : k.min ≤ n ∧ n ≤ k.max := by simpa [Lit.wf] using h3
          exact h4⟩
      · cases h
  | .bool => by
    refine ⟨fun t h => ?_, fun fs o size h => by cases fs <;> simp [opB] at h⟩
    · skip
      unfold opB at h
      split at h
      · rename_i hu
        intro fuel cs d ps ht _
        cases fuel with
        | zero => simp [DataW.trod] at ht
        | succ n =>
          unfold DataW.trod at ht
          rw [hu] at ht
          split at ht <;> simp_all [Rp, Wf]
      · cases h
  | .str => by
    refine ⟨fun t h => ?_, fun fs o size h => by cases fs <;> simp [opB] at h⟩
    · skip
      unfold opB at h
      split at h
      · rename_i hu
        intro fuel cs d ps ht hl
        obtain ⟨s, h1, h2, h3⟩ := DataW.trod_string hu ht
        injection h2 with h4 h5
        subst h4
        refine ⟨s.data.toList, ⟨by rw [h1], rfl⟩, ?_⟩
        have h6 := hl s.data.toList.length (by simp [DataW.weights])
        have h7 : reachBytes = 140737488351232 := by decide
        show s.data.toList.length ≤ _
        omega
      · cases h
  | .unit => ⟨fun t h => by simp [opB] at h, fun fs o size h => by
      cases fs with
      | cons f r => simp [opB] at h
      | nil =>
        intro n cs xs hs _ _ _ hz
        have : o = cs.length := by rw [hs]; exact hz
        exact ⟨(), ⟨List.drop_eq_nil_of_le (by omega), rfl⟩, trivial⟩⟩
  | .sl a => by
    refine ⟨fun t h => ?_, fun fs o size h => by cases fs <;> simp [opB] at h⟩
    · skip
      unfold opB at h
      split at h
      case h_2 => cases h
      case h_1 e hu =>
      simp only [Bool.and_eq_true] at h
      obtain ⟨⟨⟨h1, h2⟩, h3⟩, h4⟩ := h
      have hn := Nat.eq_of_beq_eq_true h1
      have h0 : 0 < a.size := by simpa [Nat.blt_eq] using h2
      have hb := Nat.eq_of_beq_eq_true h3
      have he := (opn_ok a).1 e h4
      intro fuel cs d ps hd hl
      rcases DataW.trod_slice hu hd with ⟨g1, g2⟩ | ⟨ad, len, cap, elems, rest, m, _, rfl, hx, _, hlc, _, hlen, hel, _, _⟩
      · exact ⟨([] : List a.den), ⟨none, 0, [], g1, Nat.le_refl _, .nil, fun hn => absurd hn (by simp), rfl⟩, by simp [Wf]⟩
      · injection hx with hx1 hx2
        subst hx1
        obtain ⟨hl1, hl2⟩ := light_slice hu hl
        rw [List.length_map, hlen, hb] at hl1
        have each : ∀ i, i < len → ∃ q : a.den × List Value, Rp (phiOf W) a q.1 q.2 [] ∧ Wf a q.1 ∧ ∀ k u, q.2[k]? = some u → W.cell? (ad.add (i * a.size + k)) = some u := by
          intro i hi
          obtain ⟨y, hy⟩ : ∃ y, elems[i]? = some y := ⟨_, List.getElem?_eq_getElem (by omega)⟩
          have h3 := hel i hi
          rw [hy, hn, Option.bind_eq_some_iff] at h3
          obtain ⟨cs', h4, h5⟩ := h3
          obtain ⟨y1, y2⟩ := y
          obtain ⟨x, h6, h7⟩ := he m cs' y1 y2 h5 (hl2 y1 (List.mem_map.2 ⟨(y1, y2), List.mem_of_getElem? hy, rfl⟩))
          obtain ⟨_, h8, h9⟩ := World.cells?_some h4
          refine ⟨(x, cs'), h6, h7, fun k u hu => ?_⟩
          have hk : k < a.size := by rw [← h6.len]; exact (List.getElem?_eq_some_iff.1 hu).1
          have := h9 k hk
          rw [hu, add_add'] at this
          exact this
        obtain ⟨l, h10, h11⟩ := list_choose len each
        have hll : (l.map (·.1)).length = len := by rw [List.length_map, h10]
        have hall : All2 (fun x cs => Rp (phiOf W) a x cs []) (l.map (·.1)) (l.map (·.2)) := all2_of (by simp) fun i x y hx hy => by
          rw [List.getElem?_map] at hx hy
          cases hq : l[i]? with
          | none => rw [hq] at hx; cases hx
          | some q =>
            rw [hq] at hx hy
            simp only [Option.map_some, Option.some.injEq] at hx hy
            subst hx hy
            exact (h11 i q hq).1
        refine ⟨l.map (·.1), ⟨some ad, cap, l.map (·.2), ?_, ?_, hall, fun _ => ⟨ad, rfl, fun j v hv => ?_⟩, rfl⟩, ?_, fun x hx => ?_⟩
        · show [Value.slice (some ad) len cap] = [Value.slice (some ad) (l.map (·.1)).length cap]
          rw [hll]
        · show (l.map (·.1)).length ≤ cap
          omega
        · obtain ⟨i, k, c, rfl, e2, e3⟩ := flat_at h0 (l.map (·.2)) (fun c hc => by
            obtain ⟨q, hq, rfl⟩ := List.mem_map.1 hc
            obtain ⟨i, hi⟩ := List.getElem?_of_mem hq
            exact (h11 i q hi).1.len) j v hv
          rw [List.getElem?_map] at e2
          cases hq : l[i]? with
          | none => rw [hq] at e2; cases e2
          | some q =>
            rw [hq] at e2
            simp only [Option.map_some, Option.some.injEq] at e2
            subst e2
            exact (h11 i q hq).2.2 k v e3
        · show (l.map (·.1)).length * a.byt ≤ _
          rw [hll]; exact hl1
        · obtain ⟨q, hq, rfl⟩ := List.mem_map.1 hx
          obtain ⟨i, hi⟩ := List.getElem?_of_mem hq
          exact (h11 i q hi).2.1
  | .st c => by
    refine ⟨fun t h => ?_, fun fs o size h => by cases fs <;> simp [opB] at h⟩
    · skip
      unfold opB at h
      split at h
      case h_2 => cases h
      case h_1 fs hu =>
      simp only [Bool.and_eq_true] at h
      have hs := Nat.eq_of_beq_eq_true h.1
      have hF := (opn_ok c).2 fs.toList 0 c.size h.2
      intro fuel cs d ps hd hl
      obtain ⟨xs, n, _, hx, hcl, hxl, hf⟩ := DataW.trod_struct hu hd
      injection hx with hx1 hx2
      subst hx1
      have hla := light_agg hu hl
      obtain ⟨x, h1, h2⟩ := hF n cs xs (by rw [hcl, hs]) (by simpa using hxl) (fun i f hi => hf i f (by simpa using hi)) (fun i f y hi hy => hla i f y.1 hi (by simp [hy])) (by simp)
      have h1 : Rp (phiOf W) c x cs [] := by simpa using h1
      exact ⟨x, h1, h2⟩
  | .pr a b => ⟨fun t h => by simp [opB] at h, fun fs o size h => by
      cases fs with
      | nil => simp [opB] at h
      | cons f fs =>
        unfold opB at h
        simp only [Bool.and_eq_true] at h
        obtain ⟨⟨⟨h1, h2⟩, h3⟩, h4⟩ := h
        have ho := Nat.eq_of_beq_eq_true h1
        have hm := Nat.eq_of_beq_eq_true h2
        have ha := (opn_ok a).1 _ h3
        have hb := (opn_ok b).2 fs (o + a.size) size h4
        intro n cs xs hs hxl hx hl hz
        cases xs with
        | nil => simp at hxl
        | cons y ys =>
          have h3 := hx 0 f rfl
          rw [ho, hm] at h3
          obtain ⟨y1, y2⟩ := y
          obtain ⟨x, g1, g2⟩ := ha n _ y1 y2 h3 (hl 0 f (y1, y2) rfl rfl)
          obtain ⟨z, g3, g4⟩ := hb n cs ys hs (by simpa using hxl) (fun i g hg => by simpa using hx (i + 1) g (by simpa using hg)) (fun i g y hg hy => hl (i + 1) g y (by simpa using hg) (by simpa using hy)) (by rw [← hz]; simp [Ty.size]; omega)
          refine ⟨(x, z), ⟨_, _, [], [], ?_, rfl, g1, g3⟩, g2, g4⟩
          rw [← List.drop_drop, List.take_append_drop]⟩
  | .it => ⟨fun t h => by simp [opB] at h, fun fs o size h => by cases fs <;> simp [opB] at h⟩
  | .itd => ⟨fun t h => by simp [opB] at h, fun fs o size h => by cases fs <;> simp [opB] at h⟩
  | .dead _ _ => ⟨fun t h => by simp [opB] at h, fun fs o size h => by cases fs <;> simp [opB] at h⟩
  | .rw _ _ => ⟨fun t h => by simp [opB] at h, fun fs o size h => by cases fs <;> simp [opB] at h⟩
  | .mr _ _ => ⟨fun t h => by simp [opB] at h, fun fs o size h => by cases fs <;> simp [opB] at h⟩
  | .ptr _ => ⟨fun t h => by simp [opB] at h, fun fs o size h => by cases fs <;> simp [opB] at h⟩
  | .eb _ _ => ⟨fun t h => by simp [opB] at h, fun fs o size h => by cases fs <;> simp [opB] at h⟩
  | .op _ => ⟨fun t h => by simp [opB] at h, fun fs o size h => by cases fs <;> simp [opB] at h⟩

theorem light_arg {ts : List TypeId} {ds : List (DataW H)} {j : Nat} {t : TypeId} {d : DataW H} (hz : (DataW.weightsEach P ts ds).all (· ≤ reachBytes) = true) (ht : ts[j]? = some t) (hd : ds[j]? = some d) : Light P t d := by
  intro x hx
  have h1 : ∀ y ∈ DataW.weightsEach P ts ds, y ≤ reachBytes := fun y hy => by simpa using List.all_eq_true.1 hz y hy
  clear hz
  induction ts generalizing ds j with
  | nil => simp at ht
  | cons a r ih =>
    cases ds with
    | nil => simp at hd
    | cons b q =>
      simp only [DataW.weightsEach] at h1
      cases j with
      | zero =>
        simp at ht hd
        subst ht hd
        exact h1 x (List.mem_append_left _ hx)
      | succ j => exact ih (by simpa using ht) (by simpa using hd) (fun y hy => h1 y (List.mem_append_right _ hy))
/-- an argument, opened -/
theorem open_arg {a : Ty} {v : Value} {d : DataW H} {ps : List MemPlace} {base : Nat} (ha : opB P a (.inl t) = true) (hv : Value.okWide P W .any base t v) (h : DataW.Trod enc P W 0 (fun _ => true) true t v d ps) (hl : Light P t d) :
    ∃ (x : a.den) (cs : List Value), a.top = true ∧ v = sv a cs ∧ Rp (phiOf W) a x cs [] ∧ Wf a x := by
  obtain ⟨fuel, hf⟩ := h
  obtain ⟨x, h1, h2⟩ := (opn_ok (enc := enc) (W := W) a).1 t ha fuel _ d ps hf hl
  refine ⟨x, v.cells.toList, ?_, ?_, h1, h2⟩
  · cases a <;> first | rfl | (simp [opB] at ha; done)
  · cases a <;> first | (simp [opB] at ha; done) | skip
    all_goals unfold opB at ha
    all_goals split at ha <;> first | (cases ha; done) | skip
    all_goals rename_i hu
    · obtain ⟨n, rfl⟩ := okWide_int hu hv; rfl
    · obtain ⟨n, rfl⟩ := okWide_bool hu hv; rfl
    · obtain ⟨n, rfl⟩ := okWide_string hu hv; rfl
    · obtain ⟨A, n, c, rfl⟩ := okWide_slice hu hv; rfl
    · obtain ⟨cs, rfl, _⟩ := okWide_struct hu hv; rfl
end
end Go.Lf
