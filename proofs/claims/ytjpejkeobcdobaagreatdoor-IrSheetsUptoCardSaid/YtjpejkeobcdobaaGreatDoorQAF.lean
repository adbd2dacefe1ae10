/- Parts of the proof. -/
import Derived.Test.YtjpejkeobcdobaaGreatDoorQAE
import Derived.KernelRfl
import Derived.Test.YtjpejkeobcdobaaGreatDoorQAD
import Derived.Carry
import Derived.ChangeSame
import Derived.ChangeMaps5
import Derived.SizedLaws
import Derived.ChangeSlices
import Derived.SliceStrings
import Derived.ProofKit
import Derived.OpenShut
import Derived.Deep.DeepHandedRow
import Derived.Lib.LaidTab
open Go Go.Lf
set_option maxRecDepth 10000
namespace Go.Fn
@[reducible] noncomputable def strconv_Itoa_c (_ : Nat) (a0 : Int) := Go.Fn.strconv_Itoa a0
theorem strconv_Itoa_le (n : Nat) (a0 : Int) : Go.Lf.Le (strconv_Itoa_c n a0) (strconv_Itoa a0) := Go.Lf.Le.refl
@[reducible] noncomputable def strconv_Atoi_c (_ : Nat) (a0 : List UInt8) := Go.Fn.strconv_Atoi a0
theorem strconv_Atoi_le (n : Nat) (a0 : List UInt8) : Go.Lf.Le (strconv_Atoi_c n a0) (strconv_Atoi a0) := Go.Lf.Le.refl
@[reducible] noncomputable def strings_Cut_c (_ : Nat) (a0 : List UInt8) (a1 : List UInt8) := Go.Fn.strings_Cut a0 a1
theorem strings_Cut_le (n : Nat) (a0 : List UInt8) (a1 : List UInt8) : Go.Lf.Le (strings_Cut_c n a0 a1) (strings_Cut a0 a1) := Go.Lf.Le.refl
@[reducible] noncomputable def strings_FieldsFunc_c (_ : Nat) (a0 : List UInt8) (a1 : Unit) := Go.Fn.strings_FieldsFunc a0 a1
theorem strings_FieldsFunc_le (n : Nat) (a0 : List UInt8) (a1 : Unit) : Go.Lf.Le (strings_FieldsFunc_c n a0 a1) (strings_FieldsFunc a0 a1) := Go.Lf.Le.refl
@[reducible] noncomputable def text_Plain_c (_ : Nat) (a0 : List UInt8) := Go.Fn.text_Plain a0
theorem text_Plain_le (n : Nat) (a0 : List UInt8) : Go.Lf.Le (text_Plain_c n a0) (text_Plain a0) := Go.Lf.Le.refl
@[reducible] noncomputable def text_Fold_c (_ : Nat) (a0 : List UInt8) := Go.Fn.text_Fold a0
theorem text_Fold_le (n : Nat) (a0 : List UInt8) : Go.Lf.Le (text_Fold_c n a0) (text_Fold a0) := Go.Lf.Le.refl
@[reducible] noncomputable def ir_walker__top_c (_ : Nat) (a0 : (((Int) × qT7) × qT73) × qT7) := Go.Fn.ir_walker__top a0
theorem ir_walker__top_le (n : Nat) (a0 : (((Int) × qT7) × qT73) × qT7) : Go.Lf.Le (ir_walker__top_c n a0) (ir_walker__top a0) := Go.Lf.Le.refl
noncomputable def style_Base_c (n : Nat)  : Option (List qT20) :=
 (Go.Lf.loopF n (σ := (Int) × (List qT20)) (κ := List qT20) (fun z1 =>
     bif (decide (z1.1 < (((List.length (((98 : UInt8) :: ([] : List (UInt8))) :: (((105 : UInt8) :: ([] : List (UInt8))) :: (((117 : UInt8) :: ([] : List (UInt8))) :: (((115 : UInt8) :: ([] : List (UInt8))) :: (((109 : UInt8) :: ([] : List (UInt8))) :: (((104 : UInt8) :: ([] : List (UInt8))) :: ([] : List (List (UInt8)))))))))) : Nat) : Int))) then ((Go.Lf.idx (((98 : UInt8) :: ([] : List (UInt8))) :: (((105 : UInt8) :: ([] : List (UInt8))) :: (((117 : UInt8) :: ([] : List (UInt8))) :: (((115 : UInt8) :: ([] : List (UInt8))) :: (((109 : UInt8) :: ([] : List (UInt8))) :: (((104 : UInt8) :: ([] : List (UInt8))) :: ([] : List (List (UInt8))))))))) z1.1)).bind fun r2 =>
     ((Go.Lf.idx ((1 : Int) :: ((2 : Int) :: ((4 : Int) :: ((8 : Int) :: ((16 : Int) :: ((5 : Int) :: ([] : List (Int)))))))) z1.1)).bind fun r3 =>
     ((Go.Lf.app (56 : Nat) z1.2 ((r2, (([] : List (UInt8)), ((r3, ((0 : Int), ((-(1 : Int)), ()))), ()))) :: ([] : List qT20)))).bind fun r4 =>
     some (.inl ((Go.IntKind.wrap .i64 (z1.1 + (1 : Int))), r4))
     else some (.inr z1.2)) ((0 : Int), ([] : List qT20)) : Option (List qT20)).bind fun r5 =>
 some r5
theorem style_Base_le (n : Nat)  : Go.Lf.Le (style_Base_c n ) (style_Base ) := by
  unfold style_Base_c style_Base
  repeat' first
    | with_reducible refine Go.Lf.Le.bind ?_ (fun _ => ?_)
    | with_reducible refine Go.Lf.Le.cond ?_ ?_
    | with_reducible refine Go.Lf.Le.loop (fun _ => ?_)
    | with_reducible refine Go.Lf.Le.onSum (fun _ => ?_) (fun _ => ?_)
    | with_reducible exact Go.Lf.Le.refl
noncomputable def style_named_c (n : Nat) (a0 : List (UInt8)) : Option (Bool) :=
 (bif (!(decide ((((List.length a0) : Nat) : Int) < (1 : Int)))) then some (decide ((12 : Int) < (((List.length a0) : Nat) : Int)))
   else some true).bind fun r1 =>
 bif r1 then some false
 else (Go.Lf.loopF n (σ := Int) (κ := (Unit) ⊕ (Bool)) (fun z2 =>
     bif (decide (z2 < (((List.length a0) : Nat) : Int))) then (((Go.Lf.idx a0 z2)).bind fun r3 =>
       bif (!(decide ((((UInt8.toNat r3) : Nat) : Int) < (97 : Int)))) then ((Go.Lf.idx a0 z2)).bind fun r4 =>
       some (decide ((122 : Int) < (((UInt8.toNat r4) : Nat) : Int)))
       else some true).bind fun r5 =>
     bif r5 then some (.inr (.inr false))
     else some (.inl (Go.IntKind.wrap .i64 (z2 + (1 : Int))))
     else some (.inr (.inl ()))) (0 : Int) : Option ((Unit) ⊕ (Bool))).bind fun r6 =>
 Go.Lf.onSum r6 (fun a7 =>
 some true) (fun b8 =>
 some b8)
theorem style_named_le (n : Nat) (a0 : List (UInt8)) : Go.Lf.Le (style_named_c n a0) (style_named a0) := by
  unfold style_named_c style_named
  repeat' first
    | with_reducible refine Go.Lf.Le.bind ?_ (fun _ => ?_)
    | with_reducible refine Go.Lf.Le.cond ?_ ?_
    | with_reducible refine Go.Lf.Le.loop (fun _ => ?_)
    | with_reducible refine Go.Lf.Le.onSum (fun _ => ?_) (fun _ => ?_)
    | with_reducible exact Go.Lf.Le.refl
noncomputable def style_plain_c (n : Nat)  : Option ((Int) × ((Int) × ((Int) × (Unit)))) :=
 some ((0 : Int), ((0 : Int), ((-(1 : Int)), ())))
theorem style_plain_le (n : Nat)  : Go.Lf.Le (style_plain_c n ) (style_plain ) := by
  unfold style_plain_c style_plain
  repeat' first
    | with_reducible refine Go.Lf.Le.bind ?_ (fun _ => ?_)
    | with_reducible refine Go.Lf.Le.cond ?_ ?_
    | with_reducible refine Go.Lf.Le.loop (fun _ => ?_)
    | with_reducible refine Go.Lf.Le.onSum (fun _ => ?_) (fun _ => ?_)
    | with_reducible exact Go.Lf.Le.refl
noncomputable def style_color_c (n : Nat) (a0 : List (List (UInt8))) : Option ((Int) × (Bool)) :=
 bif (decide (((((List.length a0) : Nat) : Int) : Int) = (0 : Int))) then some ((0 : Int), false)
 else ((Go.Lf.idx a0 (0 : Int))).bind fun r1 =>
 ((Go.Fn.strconv_Atoi_c n r1)).bind fun r2 =>
 (bif (Option.isNone r2.2) then bif (decide ((0 : Int) ≤ r2.1)) then bif (decide (r2.1 ≤ (15 : Int))) then ((Go.Fn.strconv_Itoa_c n r2.1)).bind fun r3 =>
   ((Go.Lf.idx a0 (0 : Int))).bind fun r4 =>
   some (r2.1, (decide ((r3 : List (UInt8)) = r4)))
   else some (r2.1, false)
   else some (r2.1, false)
   else some (r2.1, false)).bind fun r5 =>
 some (r5.1, r5.2)
theorem style_color_le (n : Nat) (a0 : List (List (UInt8))) : Go.Lf.Le (style_color_c n a0) (style_color a0) := by
  unfold style_color_c style_color
  repeat' first
    | with_reducible exact Go.Fn.strconv_Atoi_le n _
    | with_reducible exact Go.Fn.strconv_Itoa_le n _
    | with_reducible refine Go.Lf.Le.bind ?_ (fun _ => ?_)
    | with_reducible refine Go.Lf.Le.cond ?_ ?_
    | with_reducible refine Go.Lf.Le.loop (fun _ => ?_)
    | with_reducible refine Go.Lf.Le.onSum (fun _ => ?_) (fun _ => ?_)
    | with_reducible exact Go.Lf.Le.refl
noncomputable def style_words_c (n : Nat)  : Option (List (List (UInt8))) :=
 ((Go.Lf.made (16 : Nat) ([] : List (UInt8)) (7 : Int) (7 : Int))).bind fun r1 =>
 ((Go.Lf.chk (List.length r1) (0 : Int))).bind fun r2 =>
 ((Go.Lf.nth r1 r2)).bind fun r3 =>
 ((Go.Lf.chk (List.length (List.set r1 r2 ((98 : UInt8) :: ((111 : UInt8) :: ((108 : UInt8) :: ((100 : UInt8) :: ([] : List (UInt8)))))))) (1 : Int))).bind fun r4 =>
 ((Go.Lf.nth (List.set r1 r2 ((98 : UInt8) :: ((111 : UInt8) :: ((108 : UInt8) :: ((100 : UInt8) :: ([] : List (UInt8))))))) r4)).bind fun r5 =>
 ((Go.Lf.chk (List.length (List.set (List.set r1 r2 ((98 : UInt8) :: ((111 : UInt8) :: ((108 : UInt8) :: ((100 : UInt8) :: ([] : List (UInt8))))))) r4 ((105 : UInt8) :: ((116 : UInt8) :: ((97 : UInt8) :: ((108 : UInt8) :: ((105 : UInt8) :: ((99 : UInt8) :: ([] : List (UInt8)))))))))) (2 : Int))).bind fun r6 =>
 ((Go.Lf.nth (List.set (List.set r1 r2 ((98 : UInt8) :: ((111 : UInt8) :: ((108 : UInt8) :: ((100 : UInt8) :: ([] : List (UInt8))))))) r4 ((105 : UInt8) :: ((116 : UInt8) :: ((97 : UInt8) :: ((108 : UInt8) :: ((105 : UInt8) :: ((99 : UInt8) :: ([] : List (UInt8))))))))) r6)).bind fun r7 =>
 ((Go.Lf.chk (List.length (List.set (List.set (List.set r1 r2 ((98 : UInt8) :: ((111 : UInt8) :: ((108 : UInt8) :: ((100 : UInt8) :: ([] : List (UInt8))))))) r4 ((105 : UInt8) :: ((116 : UInt8) :: ((97 : UInt8) :: ((108 : UInt8) :: ((105 : UInt8) :: ((99 : UInt8) :: ([] : List (UInt8))))))))) r6 ((117 : UInt8) :: ((110 : UInt8) :: ((100 : UInt8) :: ((101 : UInt8) :: ((114 : UInt8) :: ([] : List (UInt8))))))))) (3 : Int))).bind fun r8 =>
 ((Go.Lf.nth (List.set (List.set (List.set r1 r2 ((98 : UInt8) :: ((111 : UInt8) :: ((108 : UInt8) :: ((100 : UInt8) :: ([] : List (UInt8))))))) r4 ((105 : UInt8) :: ((116 : UInt8) :: ((97 : UInt8) :: ((108 : UInt8) :: ((105 : UInt8) :: ((99 : UInt8) :: ([] : List (UInt8))))))))) r6 ((117 : UInt8) :: ((110 : UInt8) :: ((100 : UInt8) :: ((101 : UInt8) :: ((114 : UInt8) :: ([] : List (UInt8)))))))) r8)).bind fun r9 =>
 ((Go.Lf.chk (List.length (List.set (List.set (List.set (List.set r1 r2 ((98 : UInt8) :: ((111 : UInt8) :: ((108 : UInt8) :: ((100 : UInt8) :: ([] : List (UInt8))))))) r4 ((105 : UInt8) :: ((116 : UInt8) :: ((97 : UInt8) :: ((108 : UInt8) :: ((105 : UInt8) :: ((99 : UInt8) :: ([] : List (UInt8))))))))) r6 ((117 : UInt8) :: ((110 : UInt8) :: ((100 : UInt8) :: ((101 : UInt8) :: ((114 : UInt8) :: ([] : List (UInt8)))))))) r8 ((115 : UInt8) :: ((116 : UInt8) :: ((114 : UInt8) :: ((105 : UInt8) :: ((107 : UInt8) :: ((101 : UInt8) :: ([] : List (UInt8)))))))))) (4 : Int))).bind fun r10 =>
 ((Go.Lf.nth (List.set (List.set (List.set (List.set r1 r2 ((98 : UInt8) :: ((111 : UInt8) :: ((108 : UInt8) :: ((100 : UInt8) :: ([] : List (UInt8))))))) r4 ((105 : UInt8) :: ((116 : UInt8) :: ((97 : UInt8) :: ((108 : UInt8) :: ((105 : UInt8) :: ((99 : UInt8) :: ([] : List (UInt8))))))))) r6 ((117 : UInt8) :: ((110 : UInt8) :: ((100 : UInt8) :: ((101 : UInt8) :: ((114 : UInt8) :: ([] : List (UInt8)))))))) r8 ((115 : UInt8) :: ((116 : UInt8) :: ((114 : UInt8) :: ((105 : UInt8) :: ((107 : UInt8) :: ((101 : UInt8) :: ([] : List (UInt8))))))))) r10)).bind fun r11 =>
 ((Go.Lf.chk (List.length (List.set (List.set (List.set (List.set (List.set r1 r2 ((98 : UInt8) :: ((111 : UInt8) :: ((108 : UInt8) :: ((100 : UInt8) :: ([] : List (UInt8))))))) r4 ((105 : UInt8) :: ((116 : UInt8) :: ((97 : UInt8) :: ((108 : UInt8) :: ((105 : UInt8) :: ((99 : UInt8) :: ([] : List (UInt8))))))))) r6 ((117 : UInt8) :: ((110 : UInt8) :: ((100 : UInt8) :: ((101 : UInt8) :: ((114 : UInt8) :: ([] : List (UInt8)))))))) r8 ((115 : UInt8) :: ((116 : UInt8) :: ((114 : UInt8) :: ((105 : UInt8) :: ((107 : UInt8) :: ((101 : UInt8) :: ([] : List (UInt8))))))))) r10 ((109 : UInt8) :: ((111 : UInt8) :: ((110 : UInt8) :: ((111 : UInt8) :: ([] : List (UInt8)))))))) (5 : Int))).bind fun r12 =>
 ((Go.Lf.nth (List.set (List.set (List.set (List.set (List.set r1 r2 ((98 : UInt8) :: ((111 : UInt8) :: ((108 : UInt8) :: ((100 : UInt8) :: ([] : List (UInt8))))))) r4 ((105 : UInt8) :: ((116 : UInt8) :: ((97 : UInt8) :: ((108 : UInt8) :: ((105 : UInt8) :: ((99 : UInt8) :: ([] : List (UInt8))))))))) r6 ((117 : UInt8) :: ((110 : UInt8) :: ((100 : UInt8) :: ((101 : UInt8) :: ((114 : UInt8) :: ([] : List (UInt8)))))))) r8 ((115 : UInt8) :: ((116 : UInt8) :: ((114 : UInt8) :: ((105 : UInt8) :: ((107 : UInt8) :: ((101 : UInt8) :: ([] : List (UInt8))))))))) r10 ((109 : UInt8) :: ((111 : UInt8) :: ((110 : UInt8) :: ((111 : UInt8) :: ([] : List (UInt8))))))) r12)).bind fun r13 =>
 ((Go.Lf.chk (List.length (List.set (List.set (List.set (List.set (List.set (List.set r1 r2 ((98 : UInt8) :: ((111 : UInt8) :: ((108 : UInt8) :: ((100 : UInt8) :: ([] : List (UInt8))))))) r4 ((105 : UInt8) :: ((116 : UInt8) :: ((97 : UInt8) :: ((108 : UInt8) :: ((105 : UInt8) :: ((99 : UInt8) :: ([] : List (UInt8))))))))) r6 ((117 : UInt8) :: ((110 : UInt8) :: ((100 : UInt8) :: ((101 : UInt8) :: ((114 : UInt8) :: ([] : List (UInt8)))))))) r8 ((115 : UInt8) :: ((116 : UInt8) :: ((114 : UInt8) :: ((105 : UInt8) :: ((107 : UInt8) :: ((101 : UInt8) :: ([] : List (UInt8))))))))) r10 ((109 : UInt8) :: ((111 : UInt8) :: ((110 : UInt8) :: ((111 : UInt8) :: ([] : List (UInt8))))))) r12 ((115 : UInt8) :: ((109 : UInt8) :: ((97 : UInt8) :: ((108 : UInt8) :: ((108 : UInt8) :: ([] : List (UInt8))))))))) (6 : Int))).bind fun r14 =>
 ((Go.Lf.nth (List.set (List.set (List.set (List.set (List.set (List.set r1 r2 ((98 : UInt8) :: ((111 : UInt8) :: ((108 : UInt8) :: ((100 : UInt8) :: ([] : List (UInt8))))))) r4 ((105 : UInt8) :: ((116 : UInt8) :: ((97 : UInt8) :: ((108 : UInt8) :: ((105 : UInt8) :: ((99 : UInt8) :: ([] : List (UInt8))))))))) r6 ((117 : UInt8) :: ((110 : UInt8) :: ((100 : UInt8) :: ((101 : UInt8) :: ((114 : UInt8) :: ([] : List (UInt8)))))))) r8 ((115 : UInt8) :: ((116 : UInt8) :: ((114 : UInt8) :: ((105 : UInt8) :: ((107 : UInt8) :: ((101 : UInt8) :: ([] : List (UInt8))))))))) r10 ((109 : UInt8) :: ((111 : UInt8) :: ((110 : UInt8) :: ((111 : UInt8) :: ([] : List (UInt8))))))) r12 ((115 : UInt8) :: ((109 : UInt8) :: ((97 : UInt8) :: ((108 : UInt8) :: ((108 : UInt8) :: ([] : List (UInt8)))))))) r14)).bind fun r15 =>
 some (List.set (List.set (List.set (List.set (List.set (List.set (List.set r1 r2 ((98 : UInt8) :: ((111 : UInt8) :: ((108 : UInt8) :: ((100 : UInt8) :: ([] : List (UInt8))))))) r4 ((105 : UInt8) :: ((116 : UInt8) :: ((97 : UInt8) :: ((108 : UInt8) :: ((105 : UInt8) :: ((99 : UInt8) :: ([] : List (UInt8))))))))) r6 ((117 : UInt8) :: ((110 : UInt8) :: ((100 : UInt8) :: ((101 : UInt8) :: ((114 : UInt8) :: ([] : List (UInt8)))))))) r8 ((115 : UInt8) :: ((116 : UInt8) :: ((114 : UInt8) :: ((105 : UInt8) :: ((107 : UInt8) :: ((101 : UInt8) :: ([] : List (UInt8))))))))) r10 ((109 : UInt8) :: ((111 : UInt8) :: ((110 : UInt8) :: ((111 : UInt8) :: ([] : List (UInt8))))))) r12 ((115 : UInt8) :: ((109 : UInt8) :: ((97 : UInt8) :: ((108 : UInt8) :: ((108 : UInt8) :: ([] : List (UInt8)))))))) r14 ((114 : UInt8) :: ((101 : UInt8) :: ((118 : UInt8) :: ((101 : UInt8) :: ((114 : UInt8) :: ((115 : UInt8) :: ((101 : UInt8) :: ([] : List (UInt8))))))))))
theorem style_words_le (n : Nat)  : Go.Lf.Le (style_words_c n ) (style_words ) := by
  unfold style_words_c style_words
  repeat' first
    | with_reducible refine Go.Lf.Le.bind ?_ (fun _ => ?_)
    | with_reducible refine Go.Lf.Le.cond ?_ ?_
    | with_reducible refine Go.Lf.Le.loop (fun _ => ?_)
    | with_reducible refine Go.Lf.Le.onSum (fun _ => ?_) (fun _ => ?_)
    | with_reducible exact Go.Lf.Le.refl
noncomputable def style_attribute_c (n : Nat) (a0 : (List (UInt8)) × ((List (UInt8)) × qT8)) (a1 : List (UInt8)) : Option ((Bool) × qT20) :=
 (Go.Fn.style_words_c n).bind fun r1 =>
 (Go.Lf.loopF n (σ := (Int) × qT20) (κ := qT20 ⊕ ((Bool) × qT20)) (fun z2 =>
     bif (decide (z2.1 < (((List.length r1) : Nat) : Int))) then (((Go.Lf.idx r1 z2.1)).bind fun r3 =>
       (((Go.Lf.sub a1 (1 : Int) (((List.length a1) : Nat) : Int))).bind fun r4 =>
         bif (!(decide ((r4 : List (UInt8)) ≠ r3))) then ((Go.Lf.nn z2.1 (Int.fdiv (Go.Lf.bits .or .i64 z2.2.2.2.1.1 z2.2.2.2.1.2.1) ((2 : Int) ^ (Min.min (Int.toNat z2.1) (64 : Nat)))))).bind fun r5 =>
         some ((decide (((Go.Lf.bits .and .i64 r5 (1 : Int)) : Int) = (1 : Int))), z2.2)
         else some (true, z2.2)).bind fun r6 =>
       bif r6.1 then some (.inl r6.2)
       else ((Go.Lf.idx a1 (0 : Int))).bind fun r7 =>
       bif (decide (((((UInt8.toNat r7) : Nat) : Int) : Int) = (43 : Int))) then ((Go.Lf.nn z2.1 (Go.IntKind.wrap .i64 ((1 : Int) * ((2 : Int) ^ (Min.min (Int.toNat z2.1) (64 : Nat))))))).bind fun r8 =>
       some (.inr (true, (r6.2.1, (r6.2.2.1, (((Go.Lf.bits .or .i64 r6.2.2.2.1.1 r8), r6.2.2.2.1.2), r6.2.2.2.2)))))
       else bif (decide (((((UInt8.toNat r7) : Nat) : Int) : Int) = (45 : Int))) then ((Go.Lf.nn z2.1 (Go.IntKind.wrap .i64 ((1 : Int) * ((2 : Int) ^ (Min.min (Int.toNat z2.1) (64 : Nat))))))).bind fun r9 =>
       some (.inr (true, (r6.2.1, (r6.2.2.1, ((r6.2.2.2.1.1, ((Go.Lf.bits .or .i64 r6.2.2.2.1.2.1 r9), r6.2.2.2.1.2.2)), r6.2.2.2.2)))))
       else some (.inl r6.2) : Option (qT20 ⊕ ((Bool) × qT20))).bind fun r10 =>
     Go.Lf.onSum r10 (fun a11 =>
     some (.inl ((Go.IntKind.wrap .i64 (z2.1 + (1 : Int))), a11))) (fun b12 =>
     some (.inr (.inr (b12.1, b12.2))))
     else some (.inr (.inl z2.2))) ((0 : Int), a0) : Option (qT20 ⊕ ((Bool) × qT20))).bind fun r13 =>
 Go.Lf.onSum r13 (fun a14 =>
 some (false, a14)) (fun b15 =>
 some (b15.1, b15.2))
theorem style_attribute_le (n : Nat) (a0 : (List (UInt8)) × ((List (UInt8)) × qT8)) (a1 : List (UInt8)) : Go.Lf.Le (style_attribute_c n a0 a1) (style_attribute a0 a1) := by
  unfold style_attribute_c style_attribute
  repeat' first
    | with_reducible exact Go.Fn.style_words_le n
    | with_reducible refine Go.Lf.Le.bind ?_ (fun _ => ?_)
    | with_reducible refine Go.Lf.Le.cond ?_ ?_
    | with_reducible refine Go.Lf.Le.loop (fun _ => ?_)
    | with_reducible refine Go.Lf.Le.onSum (fun _ => ?_) (fun _ => ?_)
    | with_reducible exact Go.Lf.Le.refl
noncomputable def style_Parse_c (n : Nat) (a0 : List (UInt8)) : Option (qT20 × (Int)) :=
 bif (decide ((4096 : Int) < (((List.length a0) : Nat) : Int))) then some ((([] : List (UInt8)), (([] : List (UInt8)), (((0 : Int), ((0 : Int), ((0 : Int), ()))), ()))), (2 : Int))
 else ((Go.Fn.strings_FieldsFunc_c n a0 ())).bind fun r1 =>
 bif (decide (((((List.length r1) : Nat) : Int) : Int) = (0 : Int))) then some ((([] : List (UInt8)), (([] : List (UInt8)), (((0 : Int), ((0 : Int), ((0 : Int), ()))), ()))), (67 : Int))
 else ((Go.Lf.idx r1 (0 : Int))).bind fun r2 =>
 ((Go.Fn.strings_Cut_c n r2 ((58 : UInt8) :: ([] : List (UInt8))))).bind fun r3 =>
 (((Go.Fn.style_named_c n r3.1)).bind fun r4 =>
   bif (!(!r4)) then bif r3.2.2 then ((Go.Fn.style_named_c n r3.2.1)).bind fun r5 =>
   some ((!r5), (([] : List (UInt8)), (([] : List (UInt8)), (((0 : Int), ((0 : Int), ((0 : Int), ()))), ()))))
   else some (false, (([] : List (UInt8)), (([] : List (UInt8)), (((0 : Int), ((0 : Int), ((0 : Int), ()))), ()))))
   else some (true, (([] : List (UInt8)), (([] : List (UInt8)), (((0 : Int), ((0 : Int), ((0 : Int), ()))), ()))))).bind fun r6 =>
 bif r6.1 then some ((([] : List (UInt8)), (([] : List (UInt8)), (((0 : Int), ((0 : Int), ((0 : Int), ()))), ()))), (67 : Int))
 else (Go.Fn.style_plain_c n).bind fun r7 =>
 (Go.Lf.loopF n (σ := (Int) × (qT20 × qT20)) (κ := (qT20 × qT20) ⊕ ((Int) × qT20)) (fun z8 =>
     bif (decide (z8.1 < (((List.length r1) : Nat) : Int))) then (((Go.Lf.idx r1 z8.1)).bind fun r9 =>
       bif (decide ((r9 : List (UInt8)) = ((99 : UInt8) :: ((111 : UInt8) :: ((108 : UInt8) :: ((111 : UInt8) :: ((114 : UInt8) :: ([] : List (UInt8))))))))) then ((Go.Lf.sub r1 (Go.IntKind.wrap .i64 (z8.1 + (1 : Int))) (((List.length r1) : Nat) : Int))).bind fun r10 =>
       ((Go.Fn.style_color_c n r10)).bind fun r11 =>
       (bif (!(!r11.2)) then some ((decide ((z8.2.2.2.2.1.2.2.1 : Int) ≠ (-(1 : Int)))), (z8.2.1, z8.2.2))
         else some (true, (z8.2.1, z8.2.2))).bind fun r12 =>
       bif r12.1 then some (.inl ((67 : Int), (([] : List (UInt8)), (([] : List (UInt8)), (((0 : Int), ((0 : Int), ((0 : Int), ()))), ())))))
       else some (.inr ((Go.IntKind.wrap .i64 (z8.1 + (1 : Int))), (r12.2.1, (r12.2.2.1, (r12.2.2.2.1, ((r12.2.2.2.2.1.1, (r12.2.2.2.2.1.2.1, (r11.1, r12.2.2.2.2.1.2.2.2))), r12.2.2.2.2.2))))))
       else ((Go.Lf.idx r1 z8.1)).bind fun r13 =>
       ((Go.Fn.style_attribute_c n z8.2.2 r13)).bind fun r14 =>
       bif (!r14.1) then some (.inl ((67 : Int), (([] : List (UInt8)), (([] : List (UInt8)), (((0 : Int), ((0 : Int), ((0 : Int), ()))), ())))))
       else some (.inr (z8.1, (z8.2.1, r14.2))) : Option (((Int) × qT20) ⊕ ((Int) × (qT20 × qT20)))).bind fun r15 =>
     Go.Lf.onSum r15 (fun a16 =>
     some (.inr (.inr (a16.1, a16.2)))) (fun b17 =>
     some (.inl ((Go.IntKind.wrap .i64 (b17.1 + (1 : Int))), (b17.2.1, b17.2.2))))
     else some (.inr (.inl (z8.2.1, z8.2.2)))) ((1 : Int), (r6.2, (r3.1, (r3.2.1, (r7, ()))))) : Option ((qT20 × qT20) ⊕ ((Int) × qT20))).bind fun r18 =>
 Go.Lf.onSum r18 (fun a19 =>
 some (a19.2, (0 : Int))) (fun b20 =>
 some (b20.2, b20.1))
theorem style_Parse_le (n : Nat) (a0 : List (UInt8)) : Go.Lf.Le (style_Parse_c n a0) (style_Parse a0) := by
  unfold style_Parse_c style_Parse
  repeat' first
    | with_reducible exact Go.Fn.strings_Cut_le n _ _
    | with_reducible exact Go.Fn.strings_FieldsFunc_le n _ _
    | with_reducible exact Go.Fn.style_attribute_le n _ _
    | with_reducible exact Go.Fn.style_color_le n _
    | with_reducible exact Go.Fn.style_named_le n _
    | with_reducible exact Go.Fn.style_plain_le n
    | with_reducible refine Go.Lf.Le.bind ?_ (fun _ => ?_)
    | with_reducible refine Go.Lf.Le.cond ?_ ?_
    | with_reducible refine Go.Lf.Le.loop (fun _ => ?_)
    | with_reducible refine Go.Lf.Le.onSum (fun _ => ?_) (fun _ => ?_)
    | with_reducible exact Go.Lf.Le.refl
noncomputable def fault_New_c (n : Nat) (a0 : Int) (a1 : Int) (a2 : Int) (a3 : Int) (a4 : List (UInt8)) : Option (Option qT35) :=
 bif (decide ((a0 : Int) = (0 : Int))) then some (none : Option qT35)
 else some (some ((1 : Int), ((a0, (a1, (a2, (a3, (a4, (([] : List ((List (UInt8)) × ((Int) × (Unit)))), ())))))), ())))
theorem fault_New_le (n : Nat) (a0 : Int) (a1 : Int) (a2 : Int) (a3 : Int) (a4 : List (UInt8)) : Go.Lf.Le (fault_New_c n a0 a1 a2 a3 a4) (fault_New a0 a1 a2 a3 a4) := by
  unfold fault_New_c fault_New
  repeat' first
    | with_reducible refine Go.Lf.Le.bind ?_ (fun _ => ?_)
    | with_reducible refine Go.Lf.Le.cond ?_ ?_
    | with_reducible refine Go.Lf.Le.loop (fun _ => ?_)
    | with_reducible refine Go.Lf.Le.onSum (fun _ => ?_) (fun _ => ?_)
    | with_reducible exact Go.Lf.Le.refl
noncomputable def style_Find_c (n : Nat) (a0 : List qT20) (a1 : List (UInt8)) : Option ((Int) × (Bool)) :=
 (Go.Lf.loopF n (σ := Int) (κ := (Unit) ⊕ ((Int) × (Bool))) (fun z1 =>
     bif (decide (z1 < (((List.length a0) : Nat) : Int))) then ((Go.Lf.idx a0 z1)).bind fun r2 =>
     bif (decide ((r2.1 : List (UInt8)) = a1)) then some (.inr (.inr (z1, true)))
     else some (.inl (Go.IntKind.wrap .i64 (z1 + (1 : Int))))
     else some (.inr (.inl ()))) (0 : Int) : Option ((Unit) ⊕ ((Int) × (Bool)))).bind fun r3 =>
 Go.Lf.onSum r3 (fun a4 =>
 some ((0 : Int), false)) (fun b5 =>
 some (b5.1, b5.2))
theorem style_Find_le (n : Nat) (a0 : List qT20) (a1 : List (UInt8)) : Go.Lf.Le (style_Find_c n a0 a1) (style_Find a0 a1) := by
  unfold style_Find_c style_Find
  repeat' first
    | with_reducible refine Go.Lf.Le.bind ?_ (fun _ => ?_)
    | with_reducible refine Go.Lf.Le.cond ?_ ?_
    | with_reducible refine Go.Lf.Le.loop (fun _ => ?_)
    | with_reducible refine Go.Lf.Le.onSum (fun _ => ?_) (fun _ => ?_)
    | with_reducible exact Go.Lf.Le.refl
noncomputable def style_change_c (n : Nat) (a0 : (Int) × ((Int) × ((Int) × (Unit)))) : Option (Int) :=
 (bif (!(decide (((Go.Lf.bits .andNot .i64 a0.1 (127 : Int)) : Int) ≠ (0 : Int)))) then bif (!(decide (((Go.Lf.bits .andNot .i64 a0.2.1 (127 : Int)) : Int) ≠ (0 : Int)))) then bif (!(decide (a0.1 < (0 : Int)))) then bif (!(decide (a0.2.1 < (0 : Int)))) then some ((decide (((Go.Lf.bits .and .i64 a0.1 a0.2.1) : Int) ≠ (0 : Int))), a0)
   else some (true, a0)
   else some (true, a0)
   else some (true, a0)
   else some (true, a0)).bind fun r1 =>
 bif r1.1 then some (62 : Int)
 else (bif (!(decide (r1.2.2.2.1 < (-(1 : Int))))) then some (decide ((15 : Int) < r1.2.2.2.1))
   else some true).bind fun r2 =>
 bif r2 then some (63 : Int)
 else some (0 : Int)
theorem style_change_le (n : Nat) (a0 : (Int) × ((Int) × ((Int) × (Unit)))) : Go.Lf.Le (style_change_c n a0) (style_change a0) := by
  unfold style_change_c style_change
  repeat' first
    | with_reducible refine Go.Lf.Le.bind ?_ (fun _ => ?_)
    | with_reducible refine Go.Lf.Le.cond ?_ ?_
    | with_reducible refine Go.Lf.Le.loop (fun _ => ?_)
    | with_reducible refine Go.Lf.Le.onSum (fun _ => ?_) (fun _ => ?_)
    | with_reducible exact Go.Lf.Le.refl
noncomputable def style_ends_c (n : Nat) (a0 : List qT20) (a1 : Int) : Option (Bool) :=
 (Go.Lf.loopF n (σ := (Int) × ((Int) × (Bool))) (κ := Bool) (fun z1 =>
     bif (decide (z1.1 < (8 : Int))) then ((Go.Lf.idx a0 z1.2.1)).bind fun r2 =>
     ((Go.Fn.style_Find_c n a0 r2.2.1)).bind fun r3 =>
     (((Go.Lf.idx a0 z1.2.1)).bind fun r4 =>
       bif (!(decide ((r4.2.1 : List (UInt8)) = ([] : List (UInt8))))) then some (!r3.2)
       else some true).bind fun r5 =>
     bif r5 then some (.inr true)
     else some (.inl ((Go.IntKind.wrap .i64 (z1.1 + (1 : Int))), (r3.1, z1.2.2)))
     else some (.inr z1.2.2)) ((0 : Int), (a1, false)) : Option (Bool)).bind fun r6 =>
 some r6
theorem style_ends_le (n : Nat) (a0 : List qT20) (a1 : Int) : Go.Lf.Le (style_ends_c n a0 a1) (style_ends a0 a1) := by
  unfold style_ends_c style_ends
  repeat' first
    | with_reducible exact Go.Fn.style_Find_le n _ _
    | with_reducible refine Go.Lf.Le.bind ?_ (fun _ => ?_)
    | with_reducible refine Go.Lf.Le.cond ?_ ?_
    | with_reducible refine Go.Lf.Le.loop (fun _ => ?_)
    | with_reducible refine Go.Lf.Le.onSum (fun _ => ?_) (fun _ => ?_)
    | with_reducible exact Go.Lf.Le.refl
noncomputable def style_Check_c (n : Nat) (a0 : List qT20) : Option ((Int) × (Int)) :=
 bif (decide ((64 : Int) < (((List.length a0) : Nat) : Int))) then some ((0 : Int), (2 : Int))
 else (Go.Lf.loopF n (σ := Int) (κ := (Unit) ⊕ ((Int) × (Int))) (fun z1 =>
     bif (decide (z1 < (((List.length a0) : Nat) : Int))) then ((Go.Lf.idx a0 z1)).bind fun r2 =>
     ((Go.Fn.style_named_c n r2.1)).bind fun r3 =>
     bif (!r3) then some (.inr (.inr (z1, (60 : Int))))
     else ((Go.Lf.sub a0 (0 : Int) z1)).bind fun r4 =>
     ((Go.Fn.style_Find_c n r4 r2.1)).bind fun r5 =>
     bif r5.2 then some (.inr (.inr (z1, (61 : Int))))
     else ((Go.Fn.style_change_c n r2.2.2.1)).bind fun r6 =>
     bif (decide ((r6 : Int) ≠ (0 : Int))) then some (.inr (.inr (z1, r6)))
     else some (.inl (Go.IntKind.wrap .i64 (z1 + (1 : Int))))
     else some (.inr (.inl ()))) (0 : Int) : Option ((Unit) ⊕ ((Int) × (Int)))).bind fun r7 =>
 Go.Lf.onSum r7 (fun a8 =>
 (Go.Lf.loopF n (σ := Int) (κ := (Unit) ⊕ ((Int) × (Int))) (fun z9 =>
     bif (decide (z9 < (((List.length a0) : Nat) : Int))) then (((Go.Lf.idx a0 z9)).bind fun r10 =>
       bif (decide ((r10.2.1 : List (UInt8)) = ([] : List (UInt8)))) then some (.inl ())
       else ((Go.Fn.style_Find_c n a0 r10.2.1)).bind fun r11 =>
       bif (!r11.2) then some (.inr (z9, (64 : Int)))
       else ((Go.Fn.style_ends_c n a0 z9)).bind fun r12 =>
       bif (!r12) then some (.inr (z9, (65 : Int)))
       else some (.inl ()) : Option ((Unit) ⊕ ((Int) × (Int)))).bind fun r13 =>
     Go.Lf.onSum r13 (fun a14 =>
     some (.inl (Go.IntKind.wrap .i64 (z9 + (1 : Int))))) (fun b15 =>
     some (.inr (.inr (b15.1, b15.2))))
     else some (.inr (.inl ()))) (0 : Int) : Option ((Unit) ⊕ ((Int) × (Int)))).bind fun r16 =>
 Go.Lf.onSum r16 (fun a17 =>
 some ((0 : Int), (0 : Int))) (fun b18 =>
 some (b18.1, b18.2))) (fun b19 =>
 some (b19.1, b19.2))
theorem style_Check_le (n : Nat) (a0 : List qT20) : Go.Lf.Le (style_Check_c n a0) (style_Check a0) := by
  unfold style_Check_c style_Check
  repeat' first
    | with_reducible exact Go.Fn.style_Find_le n _ _
    | with_reducible exact Go.Fn.style_change_le n _
    | with_reducible exact Go.Fn.style_ends_le n _ _
    | with_reducible exact Go.Fn.style_named_le n _
    | with_reducible refine Go.Lf.Le.bind ?_ (fun _ => ?_)
    | with_reducible refine Go.Lf.Le.cond ?_ ?_
    | with_reducible refine Go.Lf.Le.loop (fun _ => ?_)
    | with_reducible refine Go.Lf.Le.onSum (fun _ => ?_) (fun _ => ?_)
    | with_reducible exact Go.Lf.Le.refl
noncomputable def fault_Code_c (n : Nat) (a0 : Int) : Option (Option qT35) :=
 ((Go.Fn.fault_New_c n a0 (0 : Int) (0 : Int) (0 : Int) ([] : List (UInt8)))).bind fun r1 =>
 some r1
theorem fault_Code_le (n : Nat) (a0 : Int) : Go.Lf.Le (fault_Code_c n a0) (fault_Code a0) := by
  unfold fault_Code_c fault_Code
  repeat' first
    | with_reducible exact Go.Fn.fault_New_le n _ _ _ _ _
    | with_reducible refine Go.Lf.Le.bind ?_ (fun _ => ?_)
    | with_reducible refine Go.Lf.Le.cond ?_ ?_
    | with_reducible refine Go.Lf.Le.loop (fun _ => ?_)
    | with_reducible refine Go.Lf.Le.onSum (fun _ => ?_) (fun _ => ?_)
    | with_reducible exact Go.Lf.Le.refl
noncomputable def ir_Sheet_c (n : Nat) (a0 : List (qT3 × ((List qT54) × (Unit)))) : Option ((List qT20) × (Option qT35)) :=
 (Go.Fn.style_Base_c n).bind fun r1 =>
 (Go.Lf.loopF n (σ := (List qT31) × ((List qT20) × (Int))) (κ := ((List qT20) × (List qT31)) ⊕ ((List qT20) × (Option qT35))) (fun z2 =>
     bif (decide (z2.2.2 < (((List.length a0) : Nat) : Int))) then ((Go.Lf.idx a0 z2.2.2)).bind fun r3 =>
     (Go.Lf.loopF n (σ := (Int) × ((List qT31) × (List qT20))) (κ := ((List qT31) × (List qT20)) ⊕ ((List qT20) × (Option qT35))) (fun z4 =>
         bif (decide (z4.1 < (((List.length r3.1) : Nat) : Int))) then ((Go.Lf.idx r3.1 z4.1)).bind fun r5 =>
         ((Go.Fn.style_Parse_c n r5.1)).bind fun r6 =>
         bif (decide ((r6.2 : Int) ≠ (0 : Int))) then ((Go.Fn.fault_New_c n r6.2 z2.2.2 r5.2.1 (0 : Int) r5.1)).bind fun r7 =>
         some (.inr (.inr (([] : List qT20), r7)))
         else ((Go.Lf.app (56 : Nat) z4.2.2 (r6.1 :: ([] : List qT20)))).bind fun r8 =>
         ((Go.Lf.app (72 : Nat) z4.2.1 (((0 : Int), (z2.2.2, (r5.2.1, ((0 : Int), (([] : List (UInt8)), (([] : List ((List (UInt8)) × ((Int) × (Unit)))), ())))))) :: ([] : List qT31)))).bind fun r9 =>
         some (.inl ((Go.IntKind.wrap .i64 (z4.1 + (1 : Int))), (r9, r8)))
         else some (.inr (.inl (z4.2.1, z4.2.2)))) ((0 : Int), (z2.1, z2.2.1)) : Option (((List qT31) × (List qT20)) ⊕ ((List qT20) × (Option qT35)))).bind fun r10 =>
     Go.Lf.onSum r10 (fun a11 =>
     some (.inl (a11.1, (a11.2, (Go.IntKind.wrap .i64 (z2.2.2 + (1 : Int))))))) (fun b12 =>
     some (.inr (.inr (b12.1, b12.2))))
     else some (.inr (.inl (z2.2.1, z2.1)))) (([] : List qT31), (r1, (0 : Int))) : Option (((List qT20) × (List qT31)) ⊕ ((List qT20) × (Option qT35)))).bind fun r13 =>
 Go.Lf.onSum r13 (fun a14 =>
 ((Go.Fn.style_Check_c n a14.1)).bind fun r15 =>
 bif (decide ((r15.2 : Int) = (0 : Int))) then some (a14.1, (none : Option qT35))
 else (bif (!(decide ((r15.2 : Int) = (2 : Int)))) then some ((decide (r15.1 < (((List.length r1) : Nat) : Int))), (a14.1, a14.2))
   else some (true, (a14.1, a14.2))).bind fun r16 =>
 bif r16.1 then (((Go.Fn.fault_New_c n r15.2 (0 : Int) (0 : Int) (0 : Int) ([] : List (UInt8)))).bind fun r17 =>
   some r17).bind fun r18 =>
 some (([] : List qT20), r18)
 else ((Go.Lf.idx r16.2.2 (Go.IntKind.wrap .i64 (r15.1 - (((List.length r1) : Nat) : Int))))).bind fun r19 =>
 ((Go.Lf.idx r16.2.1 r15.1)).bind fun r20 =>
 ((Go.Fn.fault_New_c n r15.2 r19.2.1 r19.2.2.1 (0 : Int) r20.1)).bind fun r21 =>
 some (([] : List qT20), r21)) (fun b22 =>
 some (b22.1, b22.2))
theorem ir_Sheet_le (n : Nat) (a0 : List (qT3 × ((List qT54) × (Unit)))) : Go.Lf.Le (ir_Sheet_c n a0) (ir_Sheet a0) := by
  unfold ir_Sheet_c ir_Sheet
  repeat' first
    | with_reducible exact Go.Fn.fault_New_le n _ _ _ _ _
    | with_reducible exact Go.Fn.style_Base_le n
    | with_reducible exact Go.Fn.style_Check_le n _
    | with_reducible exact Go.Fn.style_Parse_le n _
    | with_reducible refine Go.Lf.Le.bind ?_ (fun _ => ?_)
    | with_reducible refine Go.Lf.Le.cond ?_ ?_
    | with_reducible refine Go.Lf.Le.loop (fun _ => ?_)
    | with_reducible refine Go.Lf.Le.onSum (fun _ => ?_) (fun _ => ?_)
    | with_reducible exact Go.Lf.Le.refl
noncomputable def ir_lowerer__put_c (n : Nat) (a0 : (List qT20) × ((List qT19) × qT23)) (a1 : (Int) × ((Int) × qT4)) : Option qT48 :=
 (bif (decide ((a1.1 : Int) = (1 : Int))) then bif (decide ((0 : Int) < (((List.length a0.2.2.2.1) : Nat) : Int))) then ((Go.Lf.chk (List.length a0.2.2.2.1) (Go.IntKind.wrap .i64 ((((List.length a0.2.2.2.1) : Nat) : Int) - (1 : Int))))).bind fun r1 =>
   ((Go.Lf.nth a0.2.2.2.1 r1)).bind fun r2 =>
   some ((decide ((r2.1 : Int) = (1 : Int))), (a0, a1))
   else some (false, (a0, a1))
   else some (false, (a0, a1))).bind fun r3 =>
 bif r3.1 then ((Go.Lf.chk (List.length r3.2.1.2.2.2.1) (Go.IntKind.wrap .i64 ((((List.length a0.2.2.2.1) : Nat) : Int) - (1 : Int))))).bind fun r4 =>
 ((Go.Lf.nth r3.2.1.2.2.2.1 r4)).bind fun r5 =>
 ((Go.Lf.cat r5.2.2.1 r3.2.2.2.2.1)).bind fun r6 =>
 ((Go.Lf.chk (List.length r3.2.1.2.2.2.1) (Go.IntKind.wrap .i64 ((((List.length a0.2.2.2.1) : Nat) : Int) - (1 : Int))))).bind fun r7 =>
 ((Go.Lf.nth r3.2.1.2.2.2.1 r7)).bind fun r8 =>
 some (r3.2.1.1, (r3.2.1.2.1, (r3.2.1.2.2.1, ((List.set r3.2.1.2.2.2.1 r7 (r8.1, (r8.2.1, (r6, r8.2.2.2)))), r3.2.1.2.2.2.2))))
 else ((Go.Lf.app (56 : Nat) r3.2.1.2.2.2.1 (r3.2.2 :: ([] : List ((Int) × ((Int) × qT4)))))).bind fun r9 =>
 some (r3.2.1.1, (r3.2.1.2.1, (r3.2.1.2.2.1, (r9, r3.2.1.2.2.2.2))))
theorem ir_lowerer__put_le (n : Nat) (a0 : (List qT20) × ((List qT19) × qT23)) (a1 : (Int) × ((Int) × qT4)) : Go.Lf.Le (ir_lowerer__put_c n a0 a1) (ir_lowerer__put a0 a1) := by
  unfold ir_lowerer__put_c ir_lowerer__put
  repeat' first
    | with_reducible refine Go.Lf.Le.bind ?_ (fun _ => ?_)
    | with_reducible refine Go.Lf.Le.cond ?_ ?_
    | with_reducible refine Go.Lf.Le.loop (fun _ => ?_)
    | with_reducible refine Go.Lf.Le.onSum (fun _ => ?_) (fun _ => ?_)
    | with_reducible exact Go.Lf.Le.refl
noncomputable def names_Norm_c (n : Nat) (a0 : List (UInt8)) : Option ((List (UInt8)) × (Int)) :=
 bif (decide ((64 : Int) < (((List.length a0) : Nat) : Int))) then some (([] : List (UInt8)), (2 : Int))
 else ((Go.Fn.text_Plain_c n a0)).bind fun r1 =>
 bif (!r1.2) then some (([] : List (UInt8)), (70 : Int))
 else ((Go.Fn.text_Fold_c n a0)).bind fun r2 =>
 bif (decide ((r2 : List (UInt8)) = ([] : List (UInt8)))) then some (([] : List (UInt8)), (70 : Int))
 else some (r2, (0 : Int))
theorem names_Norm_le (n : Nat) (a0 : List (UInt8)) : Go.Lf.Le (names_Norm_c n a0) (names_Norm a0) := by
  unfold names_Norm_c names_Norm
  repeat' first
    | with_reducible exact Go.Fn.text_Fold_le n _
    | with_reducible exact Go.Fn.text_Plain_le n _
    | with_reducible refine Go.Lf.Le.bind ?_ (fun _ => ?_)
    | with_reducible refine Go.Lf.Le.cond ?_ ?_
    | with_reducible refine Go.Lf.Le.loop (fun _ => ?_)
    | with_reducible refine Go.Lf.Le.onSum (fun _ => ?_) (fun _ => ?_)
    | with_reducible exact Go.Lf.Le.refl
noncomputable def ir_lowerer__target_c (n : Nat) (a0 : (List qT20) × ((List qT19) × qT23)) (a1 : (Int) × ((List (UInt8)) × qT6)) (a2 : Int) (a3 : Int) : Option ((Option qT35) × qT48) :=
 ((Go.Fn.names_Norm_c n a1.2.2.1)).bind fun r1 =>
 (Go.Lf.loopF n (σ := (Int) × (qT48 × qT16)) (κ := (qT48 × qT16) ⊕ ((Option qT35) × qT48)) (fun z2 =>
     bif (decide (z2.1 < (((List.length a0.2.1) : Nat) : Int))) then ((Go.Lf.idx a0.2.1 z2.1)).bind fun r3 =>
     (bif (!(decide ((r1.2 : Int) ≠ (0 : Int)))) then some ((decide ((r3.2.1 : List (UInt8)) ≠ r1.1)), (z2.2.1, (z2.2.2, r3)))
       else some (true, (z2.2.1, (z2.2.2, r3)))).bind fun r4 =>
     bif r4.1 then some (.inl ((Go.IntKind.wrap .i64 (z2.1 + (1 : Int))), (r4.2.1, r4.2.2.1)))
     else bif (decide ((r4.2.2.2.2.2.2.2.1 : Int) ≠ a3)) then some (.inr (.inl (r4.2.1, r4.2.2.1)))
     else ((Go.Fn.ir_lowerer__put_c n r4.2.1 (a2, (z2.1, (([] : List (UInt8)), (([] : List (Int)), ())))))).bind fun r5 =>
     some (.inr (.inr ((none : Option qT35), r5)))
     else some (.inr (.inl (z2.2.1, z2.2.2)))) ((0 : Int), (a0, a1)) : Option ((qT48 × qT16) ⊕ ((Option qT35) × qT48))).bind fun r6 =>
 Go.Lf.onSum r6 (fun a7 =>
 ((Go.Fn.fault_New_c n (111 : Int) a7.1.2.2.1 a7.2.2.2.2.1 a7.2.2.2.2.2.1 a7.2.2.2.1)).bind fun r8 =>
 some (r8, a7.1)) (fun b9 =>
 some (b9.1, b9.2))
theorem ir_lowerer__target_le (n : Nat) (a0 : (List qT20) × ((List qT19) × qT23)) (a1 : (Int) × ((List (UInt8)) × qT6)) (a2 : Int) (a3 : Int) : Go.Lf.Le (ir_lowerer__target_c n a0 a1 a2 a3) (ir_lowerer__target a0 a1 a2 a3) := by
  unfold ir_lowerer__target_c ir_lowerer__target
  repeat' first
    | with_reducible exact Go.Fn.fault_New_le n _ _ _ _ _
    | with_reducible exact Go.Fn.ir_lowerer__put_le n _ _
    | with_reducible exact Go.Fn.names_Norm_le n _
    | with_reducible refine Go.Lf.Le.bind ?_ (fun _ => ?_)
    | with_reducible refine Go.Lf.Le.cond ?_ ?_
    | with_reducible refine Go.Lf.Le.loop (fun _ => ?_)
    | with_reducible refine Go.Lf.Le.onSum (fun _ => ?_) (fun _ => ?_)
    | with_reducible exact Go.Lf.Le.refl
noncomputable def ir_lowerer__piece_c (n : Nat) (a0 : (List qT20) × ((List qT19) × qT23)) (a1 : (Int) × ((List (UInt8)) × qT6)) : Option ((Option qT35) × qT48) :=
 (bif (decide ((a1.1 : Int) = (1 : Int))) then bif (decide ((a1.2.1 : List (UInt8)) ≠ ([] : List (UInt8)))) then ((Go.Fn.ir_lowerer__put_c n a0 ((1 : Int), ((0 : Int), (a1.2.1, (([] : List (Int)), ())))))).bind fun r1 =>
   some (.inl r1)
   else some (.inl a0)
   else bif (decide ((a1.1 : Int) = (2 : Int))) then ((Go.Fn.style_Find_c n a0.1 a1.2.2.1)).bind fun r2 =>
   bif (!r2.2) then ((Go.Fn.fault_New_c n (66 : Int) a0.2.2.1 a1.2.2.2.1 a1.2.2.2.2.1 a1.2.2.1)).bind fun r3 =>
   some (.inr (r3, a0))
   else ((Go.Fn.ir_lowerer__put_c n a0 ((2 : Int), (r2.1, (([] : List (UInt8)), (([] : List (Int)), ())))))).bind fun r4 =>
   some (.inl r4)
   else bif (decide ((a1.1 : Int) = (3 : Int))) then ((Go.Fn.ir_lowerer__target_c n a0 a1 (3 : Int) (0 : Int))).bind fun r5 =>
   some (.inr (r5.1, r5.2))
   else bif (decide ((a1.1 : Int) = (4 : Int))) then ((Go.Fn.ir_lowerer__target_c n a0 a1 (4 : Int) (1 : Int))).bind fun r6 =>
   some (.inr (r6.1, r6.2))
   else bif (decide ((a1.1 : Int) = (5 : Int))) then ((Go.Fn.ir_lowerer__put_c n a0 ((5 : Int), ((0 : Int), (([] : List (UInt8)), (([] : List (Int)), ())))))).bind fun r7 =>
   some (.inl r7)
   else bif (decide ((a1.1 : Int) = (6 : Int))) then ((Go.Fn.ir_lowerer__put_c n a0 ((6 : Int), ((0 : Int), (([] : List (UInt8)), (([] : List (Int)), ())))))).bind fun r8 =>
   some (.inl r8)
   else bif (decide ((a1.1 : Int) = (7 : Int))) then ((Go.Fn.ir_lowerer__put_c n a0 ((7 : Int), ((0 : Int), (([] : List (UInt8)), (([] : List (Int)), ())))))).bind fun r9 =>
   some (.inl r9)
   else ((Go.Fn.fault_New_c n (110 : Int) a0.2.2.1 a1.2.2.2.1 a1.2.2.2.2.1 ([] : List (UInt8)))).bind fun r10 =>
   some (.inr (r10, a0)) : Option (qT48 ⊕ ((Option qT35) × qT48))).bind fun r11 =>
 Go.Lf.onSum r11 (fun a12 =>
 some ((none : Option qT35), a12)) (fun b13 =>
 some (b13.1, b13.2))
theorem ir_lowerer__piece_le (n : Nat) (a0 : (List qT20) × ((List qT19) × qT23)) (a1 : (Int) × ((List (UInt8)) × qT6)) : Go.Lf.Le (ir_lowerer__piece_c n a0 a1) (ir_lowerer__piece a0 a1) := by
  unfold ir_lowerer__piece_c ir_lowerer__piece
  repeat' first
    | with_reducible exact Go.Fn.fault_New_le n _ _ _ _ _
    | with_reducible exact Go.Fn.ir_lowerer__put_le n _ _
    | with_reducible exact Go.Fn.ir_lowerer__target_le n _ _ _ _
    | with_reducible exact Go.Fn.style_Find_le n _ _
    | with_reducible refine Go.Lf.Le.bind ?_ (fun _ => ?_)
    | with_reducible refine Go.Lf.Le.cond ?_ ?_
    | with_reducible refine Go.Lf.Le.loop (fun _ => ?_)
    | with_reducible refine Go.Lf.Le.onSum (fun _ => ?_) (fun _ => ?_)
    | with_reducible exact Go.Lf.Le.refl
noncomputable def ir_lowerer__block_c (n : Nat) (a0 : (List qT20) × ((List qT19) × qT23)) (a1 : (Int) × ((Int) × qT36)) : Option ((Option qT35) × qT48) :=
 (bif (decide ((a1.1 : Int) = (2 : Int))) then ((Go.Fn.ir_lowerer__put_c n a0 ((10 : Int), (a1.2.1, (([] : List (UInt8)), (([] : List (Int)), ())))))).bind fun r1 =>
   some (.inl r1)
   else bif (decide ((a1.1 : Int) = (3 : Int))) then ((Go.Fn.ir_lowerer__put_c n a0 ((11 : Int), ((0 : Int), (([] : List (UInt8)), (([] : List (Int)), ())))))).bind fun r2 =>
   some (.inl r2)
   else bif (decide ((a1.1 : Int) = (4 : Int))) then ((Go.Lf.app (8 : Nat) ([] : List (Int)) a1.2.2.2.1)).bind fun r3 =>
   ((Go.Fn.ir_lowerer__put_c n a0 ((12 : Int), ((0 : Int), (([] : List (UInt8)), (r3, ())))))).bind fun r4 =>
   some (.inl r4)
   else bif (decide ((a1.1 : Int) = (5 : Int))) then ((Go.Fn.ir_lowerer__put_c n a0 ((13 : Int), ((0 : Int), (([] : List (UInt8)), (([] : List (Int)), ())))))).bind fun r5 =>
   some (.inl r5)
   else bif (decide ((a1.1 : Int) = (6 : Int))) then ((Go.Fn.ir_lowerer__put_c n a0 ((14 : Int), ((0 : Int), (([] : List (UInt8)), (([] : List (Int)), ())))))).bind fun r6 =>
   some (.inl r6)
   else bif (decide ((a1.1 : Int) = (1 : Int))) then (bif (decide ((a1.2.2.1 : List (UInt8)) ≠ ([] : List (UInt8)))) then ((Go.Fn.style_Find_c n a0.1 a1.2.2.1)).bind fun r7 =>
     bif (!r7.2) then ((Go.Fn.fault_New_c n (66 : Int) a0.2.2.1 a1.2.2.2.2.2.1 (0 : Int) a1.2.2.1)).bind fun r8 =>
     some (.inl (r8, a0))
     else some (.inr (r7.1, (a0, a1)))
     else some (.inr ((-(1 : Int)), (a0, a1))) : Option (((Option qT35) × qT48) ⊕ ((Int) × (qT48 × qT39)))).bind fun r9 =>
   Go.Lf.onSum r9 (fun a10 =>
   some (.inr (a10.1, a10.2))) (fun b11 =>
   ((Go.Fn.ir_lowerer__put_c n b11.2.1 ((8 : Int), (b11.1, (([] : List (UInt8)), (([] : List (Int)), ())))))).bind fun r12 =>
   (Go.Lf.loopF n (σ := (Int) × qT48) (κ := qT48 ⊕ ((Option qT35) × qT48)) (fun z13 =>
       bif (decide (z13.1 < (((List.length b11.2.2.2.2.2.2.1) : Nat) : Int))) then ((Go.Lf.idx b11.2.2.2.2.2.2.1 z13.1)).bind fun r14 =>
       ((Go.Fn.ir_lowerer__piece_c n z13.2 r14)).bind fun r15 =>
       bif (Option.isSome r15.1) then some (.inr (.inr (r15.1, r15.2)))
       else some (.inl ((Go.IntKind.wrap .i64 (z13.1 + (1 : Int))), r15.2))
       else some (.inr (.inl z13.2))) ((0 : Int), r12) : Option (qT48 ⊕ ((Option qT35) × qT48))).bind fun r16 =>
   Go.Lf.onSum r16 (fun a17 =>
   ((Go.Fn.ir_lowerer__put_c n a17 ((9 : Int), ((0 : Int), (([] : List (UInt8)), (([] : List (Int)), ())))))).bind fun r18 =>
   some (.inl r18)) (fun b19 =>
   some (.inr (b19.1, b19.2))))
   else ((Go.Fn.fault_New_c n (110 : Int) a0.2.2.1 a1.2.2.2.2.2.1 (0 : Int) ([] : List (UInt8)))).bind fun r20 =>
   some (.inr (r20, a0)) : Option (qT48 ⊕ ((Option qT35) × qT48))).bind fun r21 =>
 Go.Lf.onSum r21 (fun a22 =>
 some ((none : Option qT35), a22)) (fun b23 =>
 some (b23.1, b23.2))
theorem ir_lowerer__block_le (n : Nat) (a0 : (List qT20) × ((List qT19) × qT23)) (a1 : (Int) × ((Int) × qT36)) : Go.Lf.Le (ir_lowerer__block_c n a0 a1) (ir_lowerer__block a0 a1) := by
  unfold ir_lowerer__block_c ir_lowerer__block
  repeat' first
    | with_reducible exact Go.Fn.fault_New_le n _ _ _ _ _
    | with_reducible exact Go.Fn.ir_lowerer__piece_le n _ _
    | with_reducible exact Go.Fn.ir_lowerer__put_le n _ _
    | with_reducible exact Go.Fn.style_Find_le n _ _
    | with_reducible refine Go.Lf.Le.bind ?_ (fun _ => ?_)
    | with_reducible refine Go.Lf.Le.cond ?_ ?_
    | with_reducible refine Go.Lf.Le.loop (fun _ => ?_)
    | with_reducible refine Go.Lf.Le.onSum (fun _ => ?_) (fun _ => ?_)
    | with_reducible exact Go.Lf.Le.refl
noncomputable def ir_plain_c (n : Nat) (a0 : List (UInt8)) : Option (Bool) :=
 ((Go.Fn.text_Plain_c n a0)).bind fun r1 =>
 (bif (decide ((a0 : List (UInt8)) ≠ ([] : List (UInt8)))) then some r1.2
   else some false).bind fun r2 =>
 some r2
theorem ir_plain_le (n : Nat) (a0 : List (UInt8)) : Go.Lf.Le (ir_plain_c n a0) (ir_plain a0) := by
  unfold ir_plain_c ir_plain
  repeat' first
    | with_reducible exact Go.Fn.text_Plain_le n _
    | with_reducible refine Go.Lf.Le.bind ?_ (fun _ => ?_)
    | with_reducible refine Go.Lf.Le.cond ?_ ?_
    | with_reducible refine Go.Lf.Le.loop (fun _ => ?_)
    | with_reducible refine Go.Lf.Le.onSum (fun _ => ?_) (fun _ => ?_)
    | with_reducible exact Go.Lf.Le.refl
noncomputable def ir_walker__form_c (n : Nat) (a0 : (((Int) × qT7) × qT73) × qT7) (a1 : (Int) × ((Int) × qT4)) : Option ((Bool) × qT74) :=
 (bif (decide ((a1.1 : Int) = (1 : Int))) then ((Go.Fn.ir_plain_c n a1.2.2.1)).bind fun r1 =>
   bif r1 then some (.inl ((decide (((((List.length a1.2.2.2.1) : Nat) : Int) : Int) = (0 : Int))), ((decide ((a0.2.2.2.2.1 : Int) ≠ (1 : Int))), ((decide ((a1.2.1 : Int) = (0 : Int))), a0))))
   else some (.inl ((decide (((((List.length a1.2.2.2.1) : Nat) : Int) : Int) = (0 : Int))), (false, ((decide ((a1.2.1 : Int) = (0 : Int))), a0))))
   else bif (decide ((a1.1 : Int) = (2 : Int))) then bif (decide ((0 : Int) ≤ a1.2.1)) then some (.inl ((decide (((((List.length a1.2.2.2.1) : Nat) : Int) : Int) = (0 : Int))), ((decide ((a1.2.2.1 : List (UInt8)) = ([] : List (UInt8)))), ((decide (a1.2.1 < a0.2.2.1)), a0))))
   else some (.inl ((decide (((((List.length a1.2.2.2.1) : Nat) : Int) : Int) = (0 : Int))), ((decide ((a1.2.2.1 : List (UInt8)) = ([] : List (UInt8)))), (false, a0))))
   else (bif (decide ((a1.1 : Int) = (3 : Int))) then some ((decide ((a1.1 : Int) = (3 : Int))), (a0, a1))
     else some ((decide ((a1.1 : Int) = (4 : Int))), (a0, a1))).bind fun r2 =>
   bif r2.1 then bif (decide ((0 : Int) ≤ r2.2.2.2.1)) then some (.inl ((decide (((((List.length a1.2.2.2.1) : Nat) : Int) : Int) = (0 : Int))), ((decide ((a1.2.2.1 : List (UInt8)) = ([] : List (UInt8)))), ((decide (r2.2.2.2.1 < r2.2.1.2.2.2.1)), r2.2.1))))
   else some (.inl ((decide (((((List.length a1.2.2.2.1) : Nat) : Int) : Int) = (0 : Int))), ((decide ((a1.2.2.1 : List (UInt8)) = ([] : List (UInt8)))), (false, r2.2.1))))
   else bif (decide ((a1.1 : Int) = (8 : Int))) then bif (decide ((-(1 : Int)) ≤ r2.2.2.2.1)) then some (.inl ((decide (((((List.length a1.2.2.2.1) : Nat) : Int) : Int) = (0 : Int))), ((decide ((a1.2.2.1 : List (UInt8)) = ([] : List (UInt8)))), ((decide (r2.2.2.2.1 < r2.2.1.2.2.1)), r2.2.1))))
   else some (.inl ((decide (((((List.length a1.2.2.2.1) : Nat) : Int) : Int) = (0 : Int))), ((decide ((a1.2.2.1 : List (UInt8)) = ([] : List (UInt8)))), (false, r2.2.1))))
   else bif (decide ((a1.1 : Int) = (10 : Int))) then bif (!(decide ((r2.2.2.2.1 : Int) = (0 : Int)))) then some (.inl ((decide (((((List.length a1.2.2.2.1) : Nat) : Int) : Int) = (0 : Int))), ((decide ((a1.2.2.1 : List (UInt8)) = ([] : List (UInt8)))), ((decide ((r2.2.2.2.1 : Int) = (1 : Int))), r2.2.1))))
   else some (.inl ((decide (((((List.length a1.2.2.2.1) : Nat) : Int) : Int) = (0 : Int))), ((decide ((a1.2.2.1 : List (UInt8)) = ([] : List (UInt8)))), (true, r2.2.1))))
   else bif (decide ((a1.1 : Int) = (12 : Int))) then (bif (decide ((1 : Int) ≤ (((List.length r2.2.2.2.2.2.1) : Nat) : Int))) then some ((decide ((((List.length r2.2.2.2.2.2.1) : Nat) : Int) ≤ (8 : Int))), (r2.2.1, r2.2.2))
     else some (false, (r2.2.1, r2.2.2))).bind fun r3 =>
   (Go.Lf.loopF n (σ := (Int) × ((Bool) × qT74)) (κ := (Bool) × qT74) (fun z4 =>
       bif (decide (z4.1 < (((List.length r3.2.2.2.2.2.1) : Nat) : Int))) then (((Go.Lf.idx r3.2.2.2.2.2.1 z4.1)).bind fun r5 =>
         bif z4.2.1 then bif (decide ((0 : Int) ≤ r5)) then some ((decide (r5 ≤ (100 : Int))), z4.2.2)
         else some (false, z4.2.2)
         else some (false, z4.2.2)).bind fun r6 =>
       some (.inl ((Go.IntKind.wrap .i64 (z4.1 + (1 : Int))), (r6.1, r6.2)))
       else some (.inr (z4.2.1, z4.2.2))) ((0 : Int), (r3.1, r3.2.1)) : Option ((Bool) × qT74)).bind fun r7 =>
   some (.inl (r7.1, ((decide ((a1.2.2.1 : List (UInt8)) = ([] : List (UInt8)))), ((decide ((a1.2.1 : Int) = (0 : Int))), r7.2))))
   else (bif (decide ((a1.1 : Int) = (5 : Int))) then some ((decide ((a1.1 : Int) = (5 : Int))), r2.2.1)
     else bif (decide ((a1.1 : Int) = (6 : Int))) then some ((decide ((a1.1 : Int) = (6 : Int))), r2.2.1)
     else bif (decide ((a1.1 : Int) = (7 : Int))) then some ((decide ((a1.1 : Int) = (7 : Int))), r2.2.1)
     else bif (decide ((a1.1 : Int) = (9 : Int))) then some ((decide ((a1.1 : Int) = (9 : Int))), r2.2.1)
     else bif (decide ((a1.1 : Int) = (11 : Int))) then some ((decide ((a1.1 : Int) = (11 : Int))), r2.2.1)
     else bif (decide ((a1.1 : Int) = (13 : Int))) then some ((decide ((a1.1 : Int) = (13 : Int))), r2.2.1)
     else some ((decide ((a1.1 : Int) = (14 : Int))), r2.2.1)).bind fun r8 =>
   bif r8.1 then some (.inl ((decide (((((List.length a1.2.2.2.1) : Nat) : Int) : Int) = (0 : Int))), ((decide ((a1.2.2.1 : List (UInt8)) = ([] : List (UInt8)))), ((decide ((a1.2.1 : Int) = (0 : Int))), r8.2))))
   else some (.inr (false, r8.2)) : Option (((Bool) × ((Bool) × ((Bool) × qT74))) ⊕ ((Bool) × qT74))).bind fun r9 =>
 Go.Lf.onSum r9 (fun a10 =>
 (bif a10.2.2.1 then bif a10.2.1 then some (a10.1, a10.2.2.2)
   else some (false, a10.2.2.2)
   else some (false, a10.2.2.2)).bind fun r11 =>
 some (r11.1, r11.2)) (fun b12 =>
 some (b12.1, b12.2))
theorem ir_walker__form_le (n : Nat) (a0 : (((Int) × qT7) × qT73) × qT7) (a1 : (Int) × ((Int) × qT4)) : Go.Lf.Le (ir_walker__form_c n a0 a1) (ir_walker__form a0 a1) := by
  unfold ir_walker__form_c ir_walker__form
  repeat' first
    | with_reducible exact Go.Fn.ir_plain_le n _
    | with_reducible refine Go.Lf.Le.bind ?_ (fun _ => ?_)
    | with_reducible refine Go.Lf.Le.cond ?_ ?_
    | with_reducible refine Go.Lf.Le.loop (fun _ => ?_)
    | with_reducible refine Go.Lf.Le.onSum (fun _ => ?_) (fun _ => ?_)
    | with_reducible exact Go.Lf.Le.refl
noncomputable def ir_walker__para_c (n : Nat) (a0 : (((Int) × qT7) × qT73) × qT7) : Option ((Int) × qT74) :=
 (Go.Lf.loopF n (σ := (Int) × qT74) (κ := qT74 ⊕ ((Int) × qT74)) (fun z1 =>
     bif (decide ((0 : Int) ≤ z1.1)) then ((Go.Lf.chk (((((((((((((((((((((((((((0 : Nat) + (1 : Nat)) + (1 : Nat)) + (1 : Nat)) + (1 : Nat)) + (1 : Nat)) + (1 : Nat)) + (1 : Nat)) + (1 : Nat)) + (1 : Nat)) + (1 : Nat)) + (1 : Nat)) + (1 : Nat)) + (1 : Nat)) + (1 : Nat)) + (1 : Nat)) + (1 : Nat)) + (1 : Nat)) + (1 : Nat)) + (1 : Nat)) + (1 : Nat)) + (1 : Nat)) + (1 : Nat)) + (1 : Nat)) + (1 : Nat)) + (1 : Nat)) + (1 : Nat)) z1.1)).bind fun r2 =>
     ((Go.Lf.nth (Go.Lf.arL (Go.Lf.Ty.st (Go.Lf.Ty.pr (Go.Lf.Ty.int .i64) (Go.Lf.Ty.pr (Go.Lf.Ty.int .i64) (Go.Lf.Ty.pr (Go.Lf.Ty.int .i64) (Go.Lf.Ty.pr (Go.Lf.Ty.int .i64) (Go.Lf.Ty.pr (Go.Lf.Ty.int .i64) Go.Lf.Ty.unit)))))) (((((((((((((((((((((((((((0 : Nat) + (1 : Nat)) + (1 : Nat)) + (1 : Nat)) + (1 : Nat)) + (1 : Nat)) + (1 : Nat)) + (1 : Nat)) + (1 : Nat)) + (1 : Nat)) + (1 : Nat)) + (1 : Nat)) + (1 : Nat)) + (1 : Nat)) + (1 : Nat)) + (1 : Nat)) + (1 : Nat)) + (1 : Nat)) + (1 : Nat)) + (1 : Nat)) + (1 : Nat)) + (1 : Nat)) + (1 : Nat)) + (1 : Nat)) + (1 : Nat)) + (1 : Nat)) + (1 : Nat)) z1.2.1) r2)).bind fun r3 =>
     bif (decide ((r3.1 : Int) = (8 : Int))) then some (.inr (.inr (z1.1, z1.2)))
     else some (.inl ((Go.IntKind.wrap .i64 (z1.1 - (1 : Int))), z1.2))
     else some (.inr (.inl z1.2))) ((Go.IntKind.wrap .i64 (a0.2.1 - (1 : Int))), a0) : Option (qT74 ⊕ ((Int) × qT74))).bind fun r4 =>
 Go.Lf.onSum r4 (fun a5 =>
 some ((-(1 : Int)), a5)) (fun b6 =>
 some (b6.1, b6.2))
theorem ir_walker__para_le (n : Nat) (a0 : (((Int) × qT7) × qT73) × qT7) : Go.Lf.Le (ir_walker__para_c n a0) (ir_walker__para a0) := by
  unfold ir_walker__para_c ir_walker__para
  repeat' first
    | with_reducible refine Go.Lf.Le.bind ?_ (fun _ => ?_)
    | with_reducible refine Go.Lf.Le.cond ?_ ?_
    | with_reducible refine Go.Lf.Le.loop (fun _ => ?_)
    | with_reducible refine Go.Lf.Le.onSum (fun _ => ?_) (fun _ => ?_)
    | with_reducible exact Go.Lf.Le.refl
noncomputable def ir_walker__push_c (n : Nat) (a0 : (((Int) × qT7) × qT73) × qT7) (a1 : (Int) × qT7) : Option qT74 :=
 ((Go.Lf.chk (((((((((((((((((((((((((((0 : Nat) + (1 : Nat)) + (1 : Nat)) + (1 : Nat)) + (1 : Nat)) + (1 : Nat)) + (1 : Nat)) + (1 : Nat)) + (1 : Nat)) + (1 : Nat)) + (1 : Nat)) + (1 : Nat)) + (1 : Nat)) + (1 : Nat)) + (1 : Nat)) + (1 : Nat)) + (1 : Nat)) + (1 : Nat)) + (1 : Nat)) + (1 : Nat)) + (1 : Nat)) + (1 : Nat)) + (1 : Nat)) + (1 : Nat)) + (1 : Nat)) + (1 : Nat)) + (1 : Nat)) a0.2.1)).bind fun r1 =>
 ((Go.Lf.nth (Go.Lf.arL (Go.Lf.Ty.st (Go.Lf.Ty.pr (Go.Lf.Ty.int .i64) (Go.Lf.Ty.pr (Go.Lf.Ty.int .i64) (Go.Lf.Ty.pr (Go.Lf.Ty.int .i64) (Go.Lf.Ty.pr (Go.Lf.Ty.int .i64) (Go.Lf.Ty.pr (Go.Lf.Ty.int .i64) Go.Lf.Ty.unit)))))) (((((((((((((((((((((((((((0 : Nat) + (1 : Nat)) + (1 : Nat)) + (1 : Nat)) + (1 : Nat)) + (1 : Nat)) + (1 : Nat)) + (1 : Nat)) + (1 : Nat)) + (1 : Nat)) + (1 : Nat)) + (1 : Nat)) + (1 : Nat)) + (1 : Nat)) + (1 : Nat)) + (1 : Nat)) + (1 : Nat)) + (1 : Nat)) + (1 : Nat)) + (1 : Nat)) + (1 : Nat)) + (1 : Nat)) + (1 : Nat)) + (1 : Nat)) + (1 : Nat)) + (1 : Nat)) + (1 : Nat)) a0.1) r1)).bind fun r2 =>
 some ((Go.Lf.arS (Go.Lf.Ty.st (Go.Lf.Ty.pr (Go.Lf.Ty.int .i64) (Go.Lf.Ty.pr (Go.Lf.Ty.int .i64) (Go.Lf.Ty.pr (Go.Lf.Ty.int .i64) (Go.Lf.Ty.pr (Go.Lf.Ty.int .i64) (Go.Lf.Ty.pr (Go.Lf.Ty.int .i64) Go.Lf.Ty.unit)))))) (((((((((((((((((((((((((((0 : Nat) + (1 : Nat)) + (1 : Nat)) + (1 : Nat)) + (1 : Nat)) + (1 : Nat)) + (1 : Nat)) + (1 : Nat)) + (1 : Nat)) + (1 : Nat)) + (1 : Nat)) + (1 : Nat)) + (1 : Nat)) + (1 : Nat)) + (1 : Nat)) + (1 : Nat)) + (1 : Nat)) + (1 : Nat)) + (1 : Nat)) + (1 : Nat)) + (1 : Nat)) + (1 : Nat)) + (1 : Nat)) + (1 : Nat)) + (1 : Nat)) + (1 : Nat)) + (1 : Nat)) a0.1 r1 a1), ((Go.IntKind.wrap .i64 (a0.2.1 + (1 : Int))), a0.2.2))
theorem ir_walker__push_le (n : Nat) (a0 : (((Int) × qT7) × qT73) × qT7) (a1 : (Int) × qT7) : Go.Lf.Le (ir_walker__push_c n a0 a1) (ir_walker__push a0 a1) := by
  unfold ir_walker__push_c ir_walker__push
  repeat' first
    | with_reducible refine Go.Lf.Le.bind ?_ (fun _ => ?_)
    | with_reducible refine Go.Lf.Le.cond ?_ ?_
    | with_reducible refine Go.Lf.Le.loop (fun _ => ?_)
    | with_reducible refine Go.Lf.Le.onSum (fun _ => ?_) (fun _ => ?_)
    | with_reducible exact Go.Lf.Le.refl
noncomputable def ir_walker__within_c (n : Nat) (a0 : (((Int) × qT7) × qT73) × qT7) (a1 : Int) : Option ((Bool) × qT74) :=
 ((Go.Fn.ir_walker__top_c n a0)).bind fun r1 =>
 (bif (Option.isSome r1) then (r1).bind fun r2 =>
   ((Go.Lf.nth (Go.Lf.arL (Go.Lf.Ty.st (Go.Lf.Ty.pr (Go.Lf.Ty.int .i64) (Go.Lf.Ty.pr (Go.Lf.Ty.int .i64) (Go.Lf.Ty.pr (Go.Lf.Ty.int .i64) (Go.Lf.Ty.pr (Go.Lf.Ty.int .i64) (Go.Lf.Ty.pr (Go.Lf.Ty.int .i64) Go.Lf.Ty.unit)))))) (((((((((((((((((((((((((((0 : Nat) + (1 : Nat)) + (1 : Nat)) + (1 : Nat)) + (1 : Nat)) + (1 : Nat)) + (1 : Nat)) + (1 : Nat)) + (1 : Nat)) + (1 : Nat)) + (1 : Nat)) + (1 : Nat)) + (1 : Nat)) + (1 : Nat)) + (1 : Nat)) + (1 : Nat)) + (1 : Nat)) + (1 : Nat)) + (1 : Nat)) + (1 : Nat)) + (1 : Nat)) + (1 : Nat)) + (1 : Nat)) + (1 : Nat)) + (1 : Nat)) + (1 : Nat)) + (1 : Nat)) a0.1) r2)).bind fun r3 =>
   some ((decide ((r3.1 : Int) = a1)), a0)
   else some (false, a0)).bind fun r4 =>
 some (r4.1, r4.2)
theorem ir_walker__within_le (n : Nat) (a0 : (((Int) × qT7) × qT73) × qT7) (a1 : Int) : Go.Lf.Le (ir_walker__within_c n a0 a1) (ir_walker__within a0 a1) := by
  unfold ir_walker__within_c ir_walker__within
  repeat' first
    | with_reducible exact Go.Fn.ir_walker__top_le n _
    | with_reducible refine Go.Lf.Le.bind ?_ (fun _ => ?_)
    | with_reducible refine Go.Lf.Le.cond ?_ ?_
    | with_reducible refine Go.Lf.Le.loop (fun _ => ?_)
    | with_reducible refine Go.Lf.Le.onSum (fun _ => ?_) (fun _ => ?_)
    | with_reducible exact Go.Lf.Le.refl
noncomputable def ir_walker__item_c (n : Nat) (a0 : (((Int) × qT7) × qT73) × qT7) : Option ((Bool) × qT74) :=
 (((Go.Fn.ir_walker__within_c n a0 (10 : Int))).bind fun r1 =>
   bif r1.1 then ((Go.Fn.ir_walker__top_c n r1.2)).bind fun r2 =>
   (r2).bind fun r3 =>
   ((Go.Lf.nth (Go.Lf.arL (Go.Lf.Ty.st (Go.Lf.Ty.pr (Go.Lf.Ty.int .i64) (Go.Lf.Ty.pr (Go.Lf.Ty.int .i64) (Go.Lf.Ty.pr (Go.Lf.Ty.int .i64) (Go.Lf.Ty.pr (Go.Lf.Ty.int .i64) (Go.Lf.Ty.pr (Go.Lf.Ty.int .i64) Go.Lf.Ty.unit)))))) (((((((((((((((((((((((((((0 : Nat) + (1 : Nat)) + (1 : Nat)) + (1 : Nat)) + (1 : Nat)) + (1 : Nat)) + (1 : Nat)) + (1 : Nat)) + (1 : Nat)) + (1 : Nat)) + (1 : Nat)) + (1 : Nat)) + (1 : Nat)) + (1 : Nat)) + (1 : Nat)) + (1 : Nat)) + (1 : Nat)) + (1 : Nat)) + (1 : Nat)) + (1 : Nat)) + (1 : Nat)) + (1 : Nat)) + (1 : Nat)) + (1 : Nat)) + (1 : Nat)) + (1 : Nat)) + (1 : Nat)) r1.2.1) r3)).bind fun r4 =>
   some ((decide ((0 : Int) < r4.2.1)), r1.2)
   else some (false, r1.2)).bind fun r5 =>
 some (r5.1, r5.2)
theorem ir_walker__item_le (n : Nat) (a0 : (((Int) × qT7) × qT73) × qT7) : Go.Lf.Le (ir_walker__item_c n a0) (ir_walker__item a0) := by
  unfold ir_walker__item_c ir_walker__item
  repeat' first
    | with_reducible exact Go.Fn.ir_walker__top_le n _
    | with_reducible exact Go.Fn.ir_walker__within_le n _ _
    | with_reducible refine Go.Lf.Le.bind ?_ (fun _ => ?_)
    | with_reducible refine Go.Lf.Le.cond ?_ ?_
    | with_reducible refine Go.Lf.Le.loop (fun _ => ?_)
    | with_reducible refine Go.Lf.Le.onSum (fun _ => ?_) (fun _ => ?_)
    | with_reducible exact Go.Lf.Le.refl
noncomputable def ir_walker__full_c (n : Nat) (a0 : (((Int) × qT7) × qT73) × qT7) : Option ((Bool) × qT74) :=
 (((Go.Fn.ir_walker__top_c n a0)).bind fun r1 =>
   (r1).bind fun r2 =>
   ((Go.Lf.nth (Go.Lf.arL (Go.Lf.Ty.st (Go.Lf.Ty.pr (Go.Lf.Ty.int .i64) (Go.Lf.Ty.pr (Go.Lf.Ty.int .i64) (Go.Lf.Ty.pr (Go.Lf.Ty.int .i64) (Go.Lf.Ty.pr (Go.Lf.Ty.int .i64) (Go.Lf.Ty.pr (Go.Lf.Ty.int .i64) Go.Lf.Ty.unit)))))) (((((((((((((((((((((((((((0 : Nat) + (1 : Nat)) + (1 : Nat)) + (1 : Nat)) + (1 : Nat)) + (1 : Nat)) + (1 : Nat)) + (1 : Nat)) + (1 : Nat)) + (1 : Nat)) + (1 : Nat)) + (1 : Nat)) + (1 : Nat)) + (1 : Nat)) + (1 : Nat)) + (1 : Nat)) + (1 : Nat)) + (1 : Nat)) + (1 : Nat)) + (1 : Nat)) + (1 : Nat)) + (1 : Nat)) + (1 : Nat)) + (1 : Nat)) + (1 : Nat)) + (1 : Nat)) + (1 : Nat)) a0.1) r2)).bind fun r3 =>
   bif (!(decide ((r3.2.2.1 : Int) = (0 : Int)))) then ((Go.Fn.ir_walker__top_c n a0)).bind fun r4 =>
   (r4).bind fun r5 =>
   ((Go.Lf.nth (Go.Lf.arL (Go.Lf.Ty.st (Go.Lf.Ty.pr (Go.Lf.Ty.int .i64) (Go.Lf.Ty.pr (Go.Lf.Ty.int .i64) (Go.Lf.Ty.pr (Go.Lf.Ty.int .i64) (Go.Lf.Ty.pr (Go.Lf.Ty.int .i64) (Go.Lf.Ty.pr (Go.Lf.Ty.int .i64) Go.Lf.Ty.unit)))))) (((((((((((((((((((((((((((0 : Nat) + (1 : Nat)) + (1 : Nat)) + (1 : Nat)) + (1 : Nat)) + (1 : Nat)) + (1 : Nat)) + (1 : Nat)) + (1 : Nat)) + (1 : Nat)) + (1 : Nat)) + (1 : Nat)) + (1 : Nat)) + (1 : Nat)) + (1 : Nat)) + (1 : Nat)) + (1 : Nat)) + (1 : Nat)) + (1 : Nat)) + (1 : Nat)) + (1 : Nat)) + (1 : Nat)) + (1 : Nat)) + (1 : Nat)) + (1 : Nat)) + (1 : Nat)) + (1 : Nat)) a0.1) r5)).bind fun r6 =>
   ((Go.Fn.ir_walker__top_c n a0)).bind fun r7 =>
   (r7).bind fun r8 =>
   ((Go.Lf.nth (Go.Lf.arL (Go.Lf.Ty.st (Go.Lf.Ty.pr (Go.Lf.Ty.int .i64) (Go.Lf.Ty.pr (Go.Lf.Ty.int .i64) (Go.Lf.Ty.pr (Go.Lf.Ty.int .i64) (Go.Lf.Ty.pr (Go.Lf.Ty.int .i64) (Go.Lf.Ty.pr (Go.Lf.Ty.int .i64) Go.Lf.Ty.unit)))))) (((((((((((((((((((((((((((0 : Nat) + (1 : Nat)) + (1 : Nat)) + (1 : Nat)) + (1 : Nat)) + (1 : Nat)) + (1 : Nat)) + (1 : Nat)) + (1 : Nat)) + (1 : Nat)) + (1 : Nat)) + (1 : Nat)) + (1 : Nat)) + (1 : Nat)) + (1 : Nat)) + (1 : Nat)) + (1 : Nat)) + (1 : Nat)) + (1 : Nat)) + (1 : Nat)) + (1 : Nat)) + (1 : Nat)) + (1 : Nat)) + (1 : Nat)) + (1 : Nat)) + (1 : Nat)) + (1 : Nat)) a0.1) r8)).bind fun r9 =>
   some ((decide ((r6.2.2.2.1 : Int) = r9.2.2.2.2.1)), a0)
   else some (true, a0)).bind fun r10 =>
 some (r10.1, r10.2)
theorem ir_walker__full_le (n : Nat) (a0 : (((Int) × qT7) × qT73) × qT7) : Go.Lf.Le (ir_walker__full_c n a0) (ir_walker__full a0) := by
  unfold ir_walker__full_c ir_walker__full
  repeat' first
    | with_reducible exact Go.Fn.ir_walker__top_le n _
    | with_reducible refine Go.Lf.Le.bind ?_ (fun _ => ?_)
    | with_reducible refine Go.Lf.Le.cond ?_ ?_
    | with_reducible refine Go.Lf.Le.loop (fun _ => ?_)
    | with_reducible refine Go.Lf.Le.onSum (fun _ => ?_) (fun _ => ?_)
    | with_reducible exact Go.Lf.Le.refl
noncomputable def ir_walker__block_c (n : Nat) (a0 : (((Int) × qT7) × qT73) × qT7) (a1 : (Int) × ((Int) × qT4)) : Option ((Bool) × qT74) :=
 ((Go.Fn.ir_walker__top_c n a0)).bind fun r1 =>
 (bif (decide ((a1.1 : Int) = (8 : Int))) then (bif (Option.isSome r1) then bif (Option.isSome r1) then none
     else bif (Option.isSome r1) then none
     else bif (Option.isSome r1) then none
     else some (false, (a0, a1))
     else bif (Option.isSome r1) then none
     else bif (Option.isSome r1) then none
     else bif (Option.isSome r1) then none
     else some (false, (a0, a1))).bind fun r2 =>
   bif r2.1 then some (.inl (false, r2.2.1))
   else ((Go.Fn.ir_walker__push_c n r2.2.1 (r2.2.2.1, ((0 : Int), ((0 : Int), ((0 : Int), ((0 : Int), ()))))))).bind fun r3 =>
   some (.inr r3)
   else bif (decide ((a1.1 : Int) = (10 : Int))) then (bif (Option.isSome r1) then ((Go.Fn.ir_walker__item_c n a0)).bind fun r4 =>
     bif (!(!r4.1)) then some ((decide ((8 : Int) ≤ r4.2.2.1)), (r4.2, a1))
     else some (true, (r4.2, a1))
     else some ((decide ((8 : Int) ≤ a0.2.1)), (a0, a1))).bind fun r5 =>
   bif r5.1 then some (.inl (false, r5.2.1))
   else ((Go.Fn.ir_walker__push_c n r5.2.1 (r5.2.2.1, ((0 : Int), ((0 : Int), ((0 : Int), ((0 : Int), ()))))))).bind fun r6 =>
   some (.inr r6)
   else bif (decide ((a1.1 : Int) = (11 : Int))) then ((Go.Fn.ir_walker__within_c n a0 (10 : Int))).bind fun r7 =>
   bif (!r7.1) then some (.inl (false, r7.2))
   else (r1).bind fun r8 =>
   ((Go.Lf.nth (Go.Lf.arL (Go.Lf.Ty.st (Go.Lf.Ty.pr (Go.Lf.Ty.int .i64) (Go.Lf.Ty.pr (Go.Lf.Ty.int .i64) (Go.Lf.Ty.pr (Go.Lf.Ty.int .i64) (Go.Lf.Ty.pr (Go.Lf.Ty.int .i64) (Go.Lf.Ty.pr (Go.Lf.Ty.int .i64) Go.Lf.Ty.unit)))))) (((((((((((((((((((((((((((0 : Nat) + (1 : Nat)) + (1 : Nat)) + (1 : Nat)) + (1 : Nat)) + (1 : Nat)) + (1 : Nat)) + (1 : Nat)) + (1 : Nat)) + (1 : Nat)) + (1 : Nat)) + (1 : Nat)) + (1 : Nat)) + (1 : Nat)) + (1 : Nat)) + (1 : Nat)) + (1 : Nat)) + (1 : Nat)) + (1 : Nat)) + (1 : Nat)) + (1 : Nat)) + (1 : Nat)) + (1 : Nat)) + (1 : Nat)) + (1 : Nat)) + (1 : Nat)) + (1 : Nat)) r7.2.1) r8)).bind fun r9 =>
   (r1).bind fun r10 =>
   ((Go.Lf.nth (Go.Lf.arL (Go.Lf.Ty.st (Go.Lf.Ty.pr (Go.Lf.Ty.int .i64) (Go.Lf.Ty.pr (Go.Lf.Ty.int .i64) (Go.Lf.Ty.pr (Go.Lf.Ty.int .i64) (Go.Lf.Ty.pr (Go.Lf.Ty.int .i64) (Go.Lf.Ty.pr (Go.Lf.Ty.int .i64) Go.Lf.Ty.unit)))))) (((((((((((((((((((((((((((0 : Nat) + (1 : Nat)) + (1 : Nat)) + (1 : Nat)) + (1 : Nat)) + (1 : Nat)) + (1 : Nat)) + (1 : Nat)) + (1 : Nat)) + (1 : Nat)) + (1 : Nat)) + (1 : Nat)) + (1 : Nat)) + (1 : Nat)) + (1 : Nat)) + (1 : Nat)) + (1 : Nat)) + (1 : Nat)) + (1 : Nat)) + (1 : Nat)) + (1 : Nat)) + (1 : Nat)) + (1 : Nat)) + (1 : Nat)) + (1 : Nat)) + (1 : Nat)) + (1 : Nat)) r7.2.1) r10)).bind fun r11 =>
   some (.inr ((Go.Lf.arS (Go.Lf.Ty.st (Go.Lf.Ty.pr (Go.Lf.Ty.int .i64) (Go.Lf.Ty.pr (Go.Lf.Ty.int .i64) (Go.Lf.Ty.pr (Go.Lf.Ty.int .i64) (Go.Lf.Ty.pr (Go.Lf.Ty.int .i64) (Go.Lf.Ty.pr (Go.Lf.Ty.int .i64) Go.Lf.Ty.unit)))))) (((((((((((((((((((((((((((0 : Nat) + (1 : Nat)) + (1 : Nat)) + (1 : Nat)) + (1 : Nat)) + (1 : Nat)) + (1 : Nat)) + (1 : Nat)) + (1 : Nat)) + (1 : Nat)) + (1 : Nat)) + (1 : Nat)) + (1 : Nat)) + (1 : Nat)) + (1 : Nat)) + (1 : Nat)) + (1 : Nat)) + (1 : Nat)) + (1 : Nat)) + (1 : Nat)) + (1 : Nat)) + (1 : Nat)) + (1 : Nat)) + (1 : Nat)) + (1 : Nat)) + (1 : Nat)) + (1 : Nat)) r7.2.1 r10 (r11.1, ((Go.IntKind.wrap .i64 (r9.2.1 + (1 : Int))), r11.2.2))), r7.2.2))
   else bif (decide ((a1.1 : Int) = (12 : Int))) then bif (Option.isSome r1) then some (.inl (false, a0))
   else ((Go.Fn.ir_walker__push_c n a0 (a1.1, ((0 : Int), ((0 : Int), ((0 : Int), ((((List.length a1.2.2.2.1) : Nat) : Int), ()))))))).bind fun r12 =>
   some (.inr r12)
   else bif (decide ((a1.1 : Int) = (13 : Int))) then (((Go.Fn.ir_walker__within_c n a0 (12 : Int))).bind fun r13 =>
     bif (!(!r13.1)) then ((Go.Fn.ir_walker__full_c n r13.2)).bind fun r14 =>
     some ((!r14.1), r14.2)
     else some (true, r13.2)).bind fun r15 =>
   bif r15.1 then some (.inl (false, r15.2))
   else (r1).bind fun r16 =>
   ((Go.Lf.nth (Go.Lf.arL (Go.Lf.Ty.st (Go.Lf.Ty.pr (Go.Lf.Ty.int .i64) (Go.Lf.Ty.pr (Go.Lf.Ty.int .i64) (Go.Lf.Ty.pr (Go.Lf.Ty.int .i64) (Go.Lf.Ty.pr (Go.Lf.Ty.int .i64) (Go.Lf.Ty.pr (Go.Lf.Ty.int .i64) Go.Lf.Ty.unit)))))) (((((((((((((((((((((((((((0 : Nat) + (1 : Nat)) + (1 : Nat)) + (1 : Nat)) + (1 : Nat)) + (1 : Nat)) + (1 : Nat)) + (1 : Nat)) + (1 : Nat)) + (1 : Nat)) + (1 : Nat)) + (1 : Nat)) + (1 : Nat)) + (1 : Nat)) + (1 : Nat)) + (1 : Nat)) + (1 : Nat)) + (1 : Nat)) + (1 : Nat)) + (1 : Nat)) + (1 : Nat)) + (1 : Nat)) + (1 : Nat)) + (1 : Nat)) + (1 : Nat)) + (1 : Nat)) + (1 : Nat)) r15.2.1) r16)).bind fun r17 =>
   (r1).bind fun r18 =>
   ((Go.Lf.nth (Go.Lf.arL (Go.Lf.Ty.st (Go.Lf.Ty.pr (Go.Lf.Ty.int .i64) (Go.Lf.Ty.pr (Go.Lf.Ty.int .i64) (Go.Lf.Ty.pr (Go.Lf.Ty.int .i64) (Go.Lf.Ty.pr (Go.Lf.Ty.int .i64) (Go.Lf.Ty.pr (Go.Lf.Ty.int .i64) Go.Lf.Ty.unit)))))) (((((((((((((((((((((((((((0 : Nat) + (1 : Nat)) + (1 : Nat)) + (1 : Nat)) + (1 : Nat)) + (1 : Nat)) + (1 : Nat)) + (1 : Nat)) + (1 : Nat)) + (1 : Nat)) + (1 : Nat)) + (1 : Nat)) + (1 : Nat)) + (1 : Nat)) + (1 : Nat)) + (1 : Nat)) + (1 : Nat)) + (1 : Nat)) + (1 : Nat)) + (1 : Nat)) + (1 : Nat)) + (1 : Nat)) + (1 : Nat)) + (1 : Nat)) + (1 : Nat)) + (1 : Nat)) + (1 : Nat)) r15.2.1) r18)).bind fun r19 =>
   (r1).bind fun r20 =>
   ((Go.Lf.nth (Go.Lf.arL (Go.Lf.Ty.st (Go.Lf.Ty.pr (Go.Lf.Ty.int .i64) (Go.Lf.Ty.pr (Go.Lf.Ty.int .i64) (Go.Lf.Ty.pr (Go.Lf.Ty.int .i64) (Go.Lf.Ty.pr (Go.Lf.Ty.int .i64) (Go.Lf.Ty.pr (Go.Lf.Ty.int .i64) Go.Lf.Ty.unit)))))) (((((((((((((((((((((((((((0 : Nat) + (1 : Nat)) + (1 : Nat)) + (1 : Nat)) + (1 : Nat)) + (1 : Nat)) + (1 : Nat)) + (1 : Nat)) + (1 : Nat)) + (1 : Nat)) + (1 : Nat)) + (1 : Nat)) + (1 : Nat)) + (1 : Nat)) + (1 : Nat)) + (1 : Nat)) + (1 : Nat)) + (1 : Nat)) + (1 : Nat)) + (1 : Nat)) + (1 : Nat)) + (1 : Nat)) + (1 : Nat)) + (1 : Nat)) + (1 : Nat)) + (1 : Nat)) + (1 : Nat)) (Go.Lf.arS (Go.Lf.Ty.st (Go.Lf.Ty.pr (Go.Lf.Ty.int .i64) (Go.Lf.Ty.pr (Go.Lf.Ty.int .i64) (Go.Lf.Ty.pr (Go.Lf.Ty.int .i64) (Go.Lf.Ty.pr (Go.Lf.Ty.int .i64) (Go.Lf.Ty.pr (Go.Lf.Ty.int .i64) Go.Lf.Ty.unit)))))) (((((((((((((((((((((((((((0 : Nat) + (1 : Nat)) + (1 : Nat)) + (1 : Nat)) + (1 : Nat)) + (1 : Nat)) + (1 : Nat)) + (1 : Nat)) + (1 : Nat)) + (1 : Nat)) + (1 : Nat)) + (1 : Nat)) + (1 : Nat)) + (1 : Nat)) + (1 : Nat)) + (1 : Nat)) + (1 : Nat)) + (1 : Nat)) + (1 : Nat)) + (1 : Nat)) + (1 : Nat)) + (1 : Nat)) + (1 : Nat)) + (1 : Nat)) + (1 : Nat)) + (1 : Nat)) + (1 : Nat)) r15.2.1 r18 (r19.1, (r19.2.1, ((Go.IntKind.wrap .i64 (r17.2.2.1 + (1 : Int))), r19.2.2.2))))) r20)).bind fun r21 =>
   some (.inr ((Go.Lf.arS (Go.Lf.Ty.st (Go.Lf.Ty.pr (Go.Lf.Ty.int .i64) (Go.Lf.Ty.pr (Go.Lf.Ty.int .i64) (Go.Lf.Ty.pr (Go.Lf.Ty.int .i64) (Go.Lf.Ty.pr (Go.Lf.Ty.int .i64) (Go.Lf.Ty.pr (Go.Lf.Ty.int .i64) Go.Lf.Ty.unit)))))) (((((((((((((((((((((((((((0 : Nat) + (1 : Nat)) + (1 : Nat)) + (1 : Nat)) + (1 : Nat)) + (1 : Nat)) + (1 : Nat)) + (1 : Nat)) + (1 : Nat)) + (1 : Nat)) + (1 : Nat)) + (1 : Nat)) + (1 : Nat)) + (1 : Nat)) + (1 : Nat)) + (1 : Nat)) + (1 : Nat)) + (1 : Nat)) + (1 : Nat)) + (1 : Nat)) + (1 : Nat)) + (1 : Nat)) + (1 : Nat)) + (1 : Nat)) + (1 : Nat)) + (1 : Nat)) + (1 : Nat)) (Go.Lf.arS (Go.Lf.Ty.st (Go.Lf.Ty.pr (Go.Lf.Ty.int .i64) (Go.Lf.Ty.pr (Go.Lf.Ty.int .i64) (Go.Lf.Ty.pr (Go.Lf.Ty.int .i64) (Go.Lf.Ty.pr (Go.Lf.Ty.int .i64) (Go.Lf.Ty.pr (Go.Lf.Ty.int .i64) Go.Lf.Ty.unit)))))) (((((((((((((((((((((((((((0 : Nat) + (1 : Nat)) + (1 : Nat)) + (1 : Nat)) + (1 : Nat)) + (1 : Nat)) + (1 : Nat)) + (1 : Nat)) + (1 : Nat)) + (1 : Nat)) + (1 : Nat)) + (1 : Nat)) + (1 : Nat)) + (1 : Nat)) + (1 : Nat)) + (1 : Nat)) + (1 : Nat)) + (1 : Nat)) + (1 : Nat)) + (1 : Nat)) + (1 : Nat)) + (1 : Nat)) + (1 : Nat)) + (1 : Nat)) + (1 : Nat)) + (1 : Nat)) + (1 : Nat)) r15.2.1 r18 (r19.1, (r19.2.1, ((Go.IntKind.wrap .i64 (r17.2.2.1 + (1 : Int))), r19.2.2.2)))) r20 (r21.1, (r21.2.1, (r21.2.2.1, ((0 : Int), r21.2.2.2.2))))), r15.2.2))
   else (bif (!(Option.isNone r1)) then (r1).bind fun r22 =>
     ((Go.Lf.nth (Go.Lf.arL (Go.Lf.Ty.st (Go.Lf.Ty.pr (Go.Lf.Ty.int .i64) (Go.Lf.Ty.pr (Go.Lf.Ty.int .i64) (Go.Lf.Ty.pr (Go.Lf.Ty.int .i64) (Go.Lf.Ty.pr (Go.Lf.Ty.int .i64) (Go.Lf.Ty.pr (Go.Lf.Ty.int .i64) Go.Lf.Ty.unit)))))) (((((((((((((((((((((((((((0 : Nat) + (1 : Nat)) + (1 : Nat)) + (1 : Nat)) + (1 : Nat)) + (1 : Nat)) + (1 : Nat)) + (1 : Nat)) + (1 : Nat)) + (1 : Nat)) + (1 : Nat)) + (1 : Nat)) + (1 : Nat)) + (1 : Nat)) + (1 : Nat)) + (1 : Nat)) + (1 : Nat)) + (1 : Nat)) + (1 : Nat)) + (1 : Nat)) + (1 : Nat)) + (1 : Nat)) + (1 : Nat)) + (1 : Nat)) + (1 : Nat)) + (1 : Nat)) + (1 : Nat)) a0.1) r22)).bind fun r23 =>
     bif (decide ((r23.1 : Int) = (12 : Int))) then ((Go.Fn.ir_walker__full_c n a0)).bind fun r24 =>
     some ((!r24.1), r24.2)
     else some (false, a0)
     else some (true, a0)).bind fun r25 =>
   bif r25.1 then some (.inl (false, r25.2))
   else some (.inr (r25.2.1, ((Go.IntKind.wrap .i64 (r25.2.2.1 - (1 : Int))), r25.2.2.2))) : Option (((Bool) × qT74) ⊕ qT74)).bind fun r26 =>
 Go.Lf.onSum r26 (fun a27 =>
 some (a27.1, a27.2)) (fun b28 =>
 some (true, b28))
theorem ir_walker__block_le (n : Nat) (a0 : (((Int) × qT7) × qT73) × qT7) (a1 : (Int) × ((Int) × qT4)) : Go.Lf.Le (ir_walker__block_c n a0 a1) (ir_walker__block a0 a1) := by
  unfold ir_walker__block_c ir_walker__block
  repeat' first
    | with_reducible exact Go.Fn.ir_walker__full_le n _
    | with_reducible exact Go.Fn.ir_walker__item_le n _
    | with_reducible exact Go.Fn.ir_walker__push_le n _ _
    | with_reducible exact Go.Fn.ir_walker__top_le n _
    | with_reducible exact Go.Fn.ir_walker__within_le n _ _
    | with_reducible refine Go.Lf.Le.bind ?_ (fun _ => ?_)
    | with_reducible refine Go.Lf.Le.cond ?_ ?_
    | with_reducible refine Go.Lf.Le.loop (fun _ => ?_)
    | with_reducible refine Go.Lf.Le.onSum (fun _ => ?_) (fun _ => ?_)
    | with_reducible exact Go.Lf.Le.refl
noncomputable def ir_walker__place_c (n : Nat) (a0 : (((Int) × qT7) × qT73) × qT7) (a1 : (Int) × ((Int) × qT4)) : Option ((Bool) × qT74) :=
 ((Go.Fn.ir_walker__para_c n a0)).bind fun r1 =>
 ((bif (decide ((a1.1 : Int) = (1 : Int))) then some ((decide ((a1.1 : Int) = (1 : Int))), (r1.2, a1))
     else bif (decide ((a1.1 : Int) = (6 : Int))) then some ((decide ((a1.1 : Int) = (6 : Int))), (r1.2, a1))
     else some ((decide ((a1.1 : Int) = (7 : Int))), (r1.2, a1))).bind fun r2 =>
   bif r2.1 then some (.inr (.inr (.inr (.inr ((decide ((0 : Int) ≤ r1.1)), r2.2.1)))))
   else (bif (decide ((a1.1 : Int) = (3 : Int))) then some ((decide ((a1.1 : Int) = (3 : Int))), (r2.2.1, r2.2.2))
     else some ((decide ((a1.1 : Int) = (4 : Int))), (r2.2.1, r2.2.2))).bind fun r3 =>
   bif r3.1 then (Go.Lf.loopF n (σ := (Int) × (qT74 × ((Int) × ((Int) × qT4)))) (κ := (qT74 × ((Int) × ((Int) × qT4))) ⊕ ((Bool) × qT74)) (fun z4 =>
       bif (decide (z4.1 < z4.2.1.2.1)) then ((Go.Lf.chk (((((((((((((((((((((((((((0 : Nat) + (1 : Nat)) + (1 : Nat)) + (1 : Nat)) + (1 : Nat)) + (1 : Nat)) + (1 : Nat)) + (1 : Nat)) + (1 : Nat)) + (1 : Nat)) + (1 : Nat)) + (1 : Nat)) + (1 : Nat)) + (1 : Nat)) + (1 : Nat)) + (1 : Nat)) + (1 : Nat)) + (1 : Nat)) + (1 : Nat)) + (1 : Nat)) + (1 : Nat)) + (1 : Nat)) + (1 : Nat)) + (1 : Nat)) + (1 : Nat)) + (1 : Nat)) + (1 : Nat)) z4.1)).bind fun r5 =>
       ((Go.Lf.nth (Go.Lf.arL (Go.Lf.Ty.st (Go.Lf.Ty.pr (Go.Lf.Ty.int .i64) (Go.Lf.Ty.pr (Go.Lf.Ty.int .i64) (Go.Lf.Ty.pr (Go.Lf.Ty.int .i64) (Go.Lf.Ty.pr (Go.Lf.Ty.int .i64) (Go.Lf.Ty.pr (Go.Lf.Ty.int .i64) Go.Lf.Ty.unit)))))) (((((((((((((((((((((((((((0 : Nat) + (1 : Nat)) + (1 : Nat)) + (1 : Nat)) + (1 : Nat)) + (1 : Nat)) + (1 : Nat)) + (1 : Nat)) + (1 : Nat)) + (1 : Nat)) + (1 : Nat)) + (1 : Nat)) + (1 : Nat)) + (1 : Nat)) + (1 : Nat)) + (1 : Nat)) + (1 : Nat)) + (1 : Nat)) + (1 : Nat)) + (1 : Nat)) + (1 : Nat)) + (1 : Nat)) + (1 : Nat)) + (1 : Nat)) + (1 : Nat)) + (1 : Nat)) + (1 : Nat)) z4.2.1.1) r5)).bind fun r6 =>
       (bif (!(decide ((r6.1 : Int) = (3 : Int)))) then some ((decide ((r6.1 : Int) = (4 : Int))), (z4.2.1, z4.2.2))
         else some (true, (z4.2.1, z4.2.2))).bind fun r7 =>
       bif r7.1 then some (.inr (.inr (false, r7.2.1)))
       else some (.inl ((Go.IntKind.wrap .i64 (z4.1 + (1 : Int))), (r7.2.1, r7.2.2)))
       else some (.inr (.inl (z4.2.1, z4.2.2)))) ((Max.max r1.1 (0 : Int)), (r3.2.1, r3.2.2)) : Option ((qT74 × ((Int) × ((Int) × qT4))) ⊕ ((Bool) × qT74))).bind fun r8 =>
   Go.Lf.onSum r8 (fun a9 =>
   some (.inl (a9.1, a9.2))) (fun b10 =>
   some (.inr (.inr (.inr (.inr (b10.1, b10.2))))))
   else bif (decide ((a1.1 : Int) = (2 : Int))) then some (.inl (r3.2.1, r3.2.2))
   else bif (decide ((a1.1 : Int) = (5 : Int))) then some (.inr (.inl r3.2.1))
   else bif (decide ((a1.1 : Int) = (9 : Int))) then some (.inr (.inr (.inl r3.2.1)))
   else some (.inr (.inr (.inr (.inl (r3.2.1, r3.2.2))))) : Option ((qT74 × ((Int) × ((Int) × qT4))) ⊕ (qT74 ⊕ (qT74 ⊕ ((qT74 × ((Int) × ((Int) × qT4))) ⊕ ((Bool) × qT74)))))).bind fun r11 =>
 Go.Lf.onSum r11 (fun a12 =>
 (bif (!(decide (r1.1 < (0 : Int)))) then some ((decide ((16 : Int) ≤ (Go.IntKind.wrap .i64 ((Go.IntKind.wrap .i64 (a12.1.2.1 - r1.1)) - (1 : Int))))), (a12.1, a12.2))
   else some (true, (a12.1, a12.2))).bind fun r13 =>
 bif r13.1 then some (false, r13.2.1)
 else ((Go.Fn.ir_walker__push_c n r13.2.1 (r13.2.2.1, ((0 : Int), ((0 : Int), ((0 : Int), ((0 : Int), ()))))))).bind fun r14 =>
 some (true, r14)) (fun b15 =>
 Go.Lf.onSum b15 (fun a16 =>
 (bif (!(decide (r1.1 < (0 : Int)))) then some ((decide ((Go.IntKind.wrap .i64 ((Go.IntKind.wrap .i64 (a16.2.1 - r1.1)) - (1 : Int))) < (1 : Int))), a16)
   else some (true, a16)).bind fun r17 =>
 bif r17.1 then some (false, r17.2)
 else some (true, (r17.2.1, ((Go.IntKind.wrap .i64 (r17.2.2.1 - (1 : Int))), r17.2.2.2)))) (fun b18 =>
 Go.Lf.onSum b18 (fun a19 =>
 (bif (!(decide (r1.1 < (0 : Int)))) then some ((decide ((0 : Int) < (Go.IntKind.wrap .i64 ((Go.IntKind.wrap .i64 (a19.2.1 - r1.1)) - (1 : Int))))), a19)
   else some (true, a19)).bind fun r20 =>
 bif r20.1 then some (false, r20.2)
 else (((Go.Fn.ir_walker__within_c n (r20.2.1, ((Go.IntKind.wrap .i64 (r20.2.2.1 - (1 : Int))), r20.2.2.2)) (12 : Int))).bind fun r21 =>
   bif r21.1 then ((Go.Fn.ir_walker__top_c n r21.2)).bind fun r22 =>
   (r22).bind fun r23 =>
   ((Go.Lf.nth (Go.Lf.arL (Go.Lf.Ty.st (Go.Lf.Ty.pr (Go.Lf.Ty.int .i64) (Go.Lf.Ty.pr (Go.Lf.Ty.int .i64) (Go.Lf.Ty.pr (Go.Lf.Ty.int .i64) (Go.Lf.Ty.pr (Go.Lf.Ty.int .i64) (Go.Lf.Ty.pr (Go.Lf.Ty.int .i64) Go.Lf.Ty.unit)))))) (((((((((((((((((((((((((((0 : Nat) + (1 : Nat)) + (1 : Nat)) + (1 : Nat)) + (1 : Nat)) + (1 : Nat)) + (1 : Nat)) + (1 : Nat)) + (1 : Nat)) + (1 : Nat)) + (1 : Nat)) + (1 : Nat)) + (1 : Nat)) + (1 : Nat)) + (1 : Nat)) + (1 : Nat)) + (1 : Nat)) + (1 : Nat)) + (1 : Nat)) + (1 : Nat)) + (1 : Nat)) + (1 : Nat)) + (1 : Nat)) + (1 : Nat)) + (1 : Nat)) + (1 : Nat)) + (1 : Nat)) r21.2.1) r23)).bind fun r24 =>
   (r22).bind fun r25 =>
   ((Go.Lf.nth (Go.Lf.arL (Go.Lf.Ty.st (Go.Lf.Ty.pr (Go.Lf.Ty.int .i64) (Go.Lf.Ty.pr (Go.Lf.Ty.int .i64) (Go.Lf.Ty.pr (Go.Lf.Ty.int .i64) (Go.Lf.Ty.pr (Go.Lf.Ty.int .i64) (Go.Lf.Ty.pr (Go.Lf.Ty.int .i64) Go.Lf.Ty.unit)))))) (((((((((((((((((((((((((((0 : Nat) + (1 : Nat)) + (1 : Nat)) + (1 : Nat)) + (1 : Nat)) + (1 : Nat)) + (1 : Nat)) + (1 : Nat)) + (1 : Nat)) + (1 : Nat)) + (1 : Nat)) + (1 : Nat)) + (1 : Nat)) + (1 : Nat)) + (1 : Nat)) + (1 : Nat)) + (1 : Nat)) + (1 : Nat)) + (1 : Nat)) + (1 : Nat)) + (1 : Nat)) + (1 : Nat)) + (1 : Nat)) + (1 : Nat)) + (1 : Nat)) + (1 : Nat)) + (1 : Nat)) r21.2.1) r25)).bind fun r26 =>
   some ((Go.Lf.arS (Go.Lf.Ty.st (Go.Lf.Ty.pr (Go.Lf.Ty.int .i64) (Go.Lf.Ty.pr (Go.Lf.Ty.int .i64) (Go.Lf.Ty.pr (Go.Lf.Ty.int .i64) (Go.Lf.Ty.pr (Go.Lf.Ty.int .i64) (Go.Lf.Ty.pr (Go.Lf.Ty.int .i64) Go.Lf.Ty.unit)))))) (((((((((((((((((((((((((((0 : Nat) + (1 : Nat)) + (1 : Nat)) + (1 : Nat)) + (1 : Nat)) + (1 : Nat)) + (1 : Nat)) + (1 : Nat)) + (1 : Nat)) + (1 : Nat)) + (1 : Nat)) + (1 : Nat)) + (1 : Nat)) + (1 : Nat)) + (1 : Nat)) + (1 : Nat)) + (1 : Nat)) + (1 : Nat)) + (1 : Nat)) + (1 : Nat)) + (1 : Nat)) + (1 : Nat)) + (1 : Nat)) + (1 : Nat)) + (1 : Nat)) + (1 : Nat)) + (1 : Nat)) r21.2.1 r25 (r26.1, (r26.2.1, (r26.2.2.1, ((Go.IntKind.wrap .i64 (r24.2.2.2.1 + (1 : Int))), r26.2.2.2.2))))), r21.2.2)
   else some r21.2).bind fun r27 =>
 some (true, r27)) (fun b28 =>
 Go.Lf.onSum b28 (fun a29 =>
 (bif (decide (r1.1 < (0 : Int))) then ((Go.Fn.ir_walker__block_c n a29.1 a29.2)).bind fun r30 =>
   some (r30.1, r30.2)
   else some (false, a29.1)).bind fun r31 =>
 some (r31.1, r31.2)) (fun b32 =>
 some (b32.1, b32.2)))))
theorem ir_walker__place_le (n : Nat) (a0 : (((Int) × qT7) × qT73) × qT7) (a1 : (Int) × ((Int) × qT4)) : Go.Lf.Le (ir_walker__place_c n a0 a1) (ir_walker__place a0 a1) := by
  unfold ir_walker__place_c ir_walker__place
  repeat' first
    | with_reducible exact Go.Fn.ir_walker__block_le n _ _
    | with_reducible exact Go.Fn.ir_walker__para_le n _
    | with_reducible exact Go.Fn.ir_walker__push_le n _ _
    | with_reducible exact Go.Fn.ir_walker__top_le n _
    | with_reducible exact Go.Fn.ir_walker__within_le n _ _
    | with_reducible refine Go.Lf.Le.bind ?_ (fun _ => ?_)
    | with_reducible refine Go.Lf.Le.cond ?_ ?_
    | with_reducible refine Go.Lf.Le.loop (fun _ => ?_)
    | with_reducible refine Go.Lf.Le.onSum (fun _ => ?_) (fun _ => ?_)
    | with_reducible exact Go.Lf.Le.refl
noncomputable def ir_Check_c (n : Nat) (a0 : List ((Int) × ((Int) × qT4))) (a1 : Int) (a2 : Int) : Option ((Int) × (Int)) :=
 (Go.Lf.loopF n (σ := (Int) × (Int)) (κ := Int) (fun z1 =>
     bif (decide (z1.1 < (((List.length a0) : Nat) : Int))) then ((Go.Lf.idx a0 z1.1)).bind fun r2 =>
     some (.inl ((Go.IntKind.wrap .i64 (z1.1 + (1 : Int))), (Min.min (Go.IntKind.wrap .i64 (z1.2 + (((List.length r2.2.2.1) : Nat) : Int))) (16385 : Int))))
     else some (.inr z1.2)) ((0 : Int), (0 : Int)) : Option (Int)).bind fun r3 =>
 (bif (!(decide ((65536 : Int) < (((List.length a0) : Nat) : Int)))) then some (decide ((16384 : Int) < r3))
   else some true).bind fun r4 =>
 bif r4 then some ((0 : Int), (2 : Int))
 else (Go.Lf.loopF n (σ := (Int) × qT74) (κ := qT74 ⊕ ((Int) × (Int))) (fun z5 =>
     bif (decide (z5.1 < (((List.length a0) : Nat) : Int))) then ((Go.Lf.idx a0 z5.1)).bind fun r6 =>
     (((Go.Fn.ir_walker__form_c n z5.2 r6)).bind fun r7 =>
       bif (!(!r7.1)) then ((Go.Fn.ir_walker__place_c n r7.2 r6)).bind fun r8 =>
       some ((!r8.1), (r8.2, r6))
       else some (true, (r7.2, r6))).bind fun r9 =>
     bif r9.1 then some (.inr (.inr (z5.1, (110 : Int))))
     else some (.inl ((Go.IntKind.wrap .i64 (z5.1 + (1 : Int))), (r9.2.1.1, (r9.2.1.2.1, (r9.2.1.2.2.1, (r9.2.1.2.2.2.1, (r9.2.2.1, r9.2.1.2.2.2.2.2)))))))
     else some (.inr (.inl z5.2))) ((0 : Int), ((((0 : Int), ((0 : Int), ((0 : Int), ((0 : Int), ((0 : Int), ()))))), (((0 : Int), ((0 : Int), ((0 : Int), ((0 : Int), ((0 : Int), ()))))), (((0 : Int), ((0 : Int), ((0 : Int), ((0 : Int), ((0 : Int), ()))))), (((0 : Int), ((0 : Int), ((0 : Int), ((0 : Int), ((0 : Int), ()))))), (((0 : Int), ((0 : Int), ((0 : Int), ((0 : Int), ((0 : Int), ()))))), (((0 : Int), ((0 : Int), ((0 : Int), ((0 : Int), ((0 : Int), ()))))), (((0 : Int), ((0 : Int), ((0 : Int), ((0 : Int), ((0 : Int), ()))))), (((0 : Int), ((0 : Int), ((0 : Int), ((0 : Int), ((0 : Int), ()))))), (((0 : Int), ((0 : Int), ((0 : Int), ((0 : Int), ((0 : Int), ()))))), (((0 : Int), ((0 : Int), ((0 : Int), ((0 : Int), ((0 : Int), ()))))), (((0 : Int), ((0 : Int), ((0 : Int), ((0 : Int), ((0 : Int), ()))))), (((0 : Int), ((0 : Int), ((0 : Int), ((0 : Int), ((0 : Int), ()))))), (((0 : Int), ((0 : Int), ((0 : Int), ((0 : Int), ((0 : Int), ()))))), (((0 : Int), ((0 : Int), ((0 : Int), ((0 : Int), ((0 : Int), ()))))), (((0 : Int), ((0 : Int), ((0 : Int), ((0 : Int), ((0 : Int), ()))))), (((0 : Int), ((0 : Int), ((0 : Int), ((0 : Int), ((0 : Int), ()))))), (((0 : Int), ((0 : Int), ((0 : Int), ((0 : Int), ((0 : Int), ()))))), (((0 : Int), ((0 : Int), ((0 : Int), ((0 : Int), ((0 : Int), ()))))), (((0 : Int), ((0 : Int), ((0 : Int), ((0 : Int), ((0 : Int), ()))))), (((0 : Int), ((0 : Int), ((0 : Int), ((0 : Int), ((0 : Int), ()))))), (((0 : Int), ((0 : Int), ((0 : Int), ((0 : Int), ((0 : Int), ()))))), (((0 : Int), ((0 : Int), ((0 : Int), ((0 : Int), ((0 : Int), ()))))), (((0 : Int), ((0 : Int), ((0 : Int), ((0 : Int), ((0 : Int), ()))))), (((0 : Int), ((0 : Int), ((0 : Int), ((0 : Int), ((0 : Int), ()))))), (((0 : Int), ((0 : Int), ((0 : Int), ((0 : Int), ((0 : Int), ()))))), (((0 : Int), ((0 : Int), ((0 : Int), ((0 : Int), ((0 : Int), ()))))), ())))))))))))))))))))))))))), ((0 : Int), (a1, (a2, ((0 : Int), ())))))) : Option (qT74 ⊕ ((Int) × (Int)))).bind fun r10 =>
 Go.Lf.onSum r10 (fun a11 =>
 bif (decide ((0 : Int) < a11.2.1)) then some ((((List.length a0) : Nat) : Int), (110 : Int))
 else some ((0 : Int), (0 : Int))) (fun b12 =>
 some (b12.1, b12.2))
theorem ir_Check_le (n : Nat) (a0 : List ((Int) × ((Int) × qT4))) (a1 : Int) (a2 : Int) : Go.Lf.Le (ir_Check_c n a0 a1 a2) (ir_Check a0 a1 a2) := by
  unfold ir_Check_c ir_Check
  repeat' first
    | with_reducible exact Go.Fn.ir_walker__form_le n _ _
    | with_reducible exact Go.Fn.ir_walker__place_le n _ _
    | with_reducible refine Go.Lf.Le.bind ?_ (fun _ => ?_)
    | with_reducible refine Go.Lf.Le.cond ?_ ?_
    | with_reducible refine Go.Lf.Le.loop (fun _ => ?_)
    | with_reducible refine Go.Lf.Le.onSum (fun _ => ?_) (fun _ => ?_)
    | with_reducible exact Go.Lf.Le.refl
noncomputable def ir_Lower_c (n : Nat) (a0 : List qT20) (a1 : List qT19) (a2 : (Int) × ((List (UInt8)) × qT52)) (a3 : Int) : Option (qT14 × (Option qT35)) :=
 (Go.Lf.loopF n (σ := (Int) × (qT48 × qT54)) (κ := (qT54 × qT48) ⊕ (qT14 × (Option qT35))) (fun z1 =>
     bif (decide (z1.1 < (((List.length a2.2.2.2.2.2.2.1) : Nat) : Int))) then ((Go.Lf.idx a2.2.2.2.2.2.2.1 z1.1)).bind fun r2 =>
     ((Go.Fn.ir_lowerer__block_c n z1.2.1 r2)).bind fun r3 =>
     bif (Option.isSome r3.1) then some (.inr (.inr (([] : List ((Int) × ((Int) × qT4))), r3.1)))
     else some (.inl ((Go.IntKind.wrap .i64 (z1.1 + (1 : Int))), (r3.2, z1.2.2)))
     else some (.inr (.inl (z1.2.2, z1.2.1)))) ((0 : Int), ((a0, (a1, (a3, (([] : List ((Int) × ((Int) × qT4))), ())))), a2)) : Option ((qT54 × qT48) ⊕ (qT14 × (Option qT35)))).bind fun r4 =>
 Go.Lf.onSum r4 (fun a5 =>
 ((Go.Fn.ir_Check_c n a5.2.2.2.2.1 (((List.length a0) : Nat) : Int) (((List.length a1) : Nat) : Int))).bind fun r6 =>
 bif (decide ((r6.2 : Int) ≠ (0 : Int))) then ((Go.Fn.fault_New_c n (110 : Int) a3 a5.1.2.2.2.2.2.2.2.1 (0 : Int) ([] : List (UInt8)))).bind fun r7 =>
 some (([] : List ((Int) × ((Int) × qT4))), r7)
 else some (a5.2.2.2.2.1, (none : Option qT35))) (fun b8 =>
 some (b8.1, b8.2))
theorem ir_Lower_le (n : Nat) (a0 : List qT20) (a1 : List qT19) (a2 : (Int) × ((List (UInt8)) × qT52)) (a3 : Int) : Go.Lf.Le (ir_Lower_c n a0 a1 a2 a3) (ir_Lower a0 a1 a2 a3) := by
  unfold ir_Lower_c ir_Lower
  repeat' first
    | with_reducible exact Go.Fn.fault_New_le n _ _ _ _ _
    | with_reducible exact Go.Fn.ir_Check_le n _ _ _
    | with_reducible exact Go.Fn.ir_lowerer__block_le n _ _
    | with_reducible refine Go.Lf.Le.bind ?_ (fun _ => ?_)
    | with_reducible refine Go.Lf.Le.cond ?_ ?_
    | with_reducible refine Go.Lf.Le.loop (fun _ => ?_)
    | with_reducible refine Go.Lf.Le.onSum (fun _ => ?_) (fun _ => ?_)
    | with_reducible exact Go.Lf.Le.refl
noncomputable def ir_Text_c (n : Nat) (a0 : List ((Int) × ((Int) × qT4))) : Option (List (UInt8)) :=
 (Go.Lf.loopF n (σ := (Int) × (List (Int))) (κ := List (Int)) (fun z1 =>
     bif (decide (z1.1 < (((List.length a0) : Nat) : Int))) then (((Go.Lf.idx a0 z1.1)).bind fun r2 =>
       bif (decide ((r2.1 : Int) = (1 : Int))) then ((Go.Lf.app (1 : Nat) z1.2 (Go.Lf.bytesI r2.2.2.1))).bind fun r3 =>
       some r3
       else some z1.2).bind fun r4 =>
     some (.inl ((Go.IntKind.wrap .i64 (z1.1 + (1 : Int))), r4))
     else some (.inr z1.2)) ((0 : Int), ([] : List (Int))) : Option (List (Int))).bind fun r5 =>
 some (Go.Lf.bytesU r5)
theorem ir_Text_le (n : Nat) (a0 : List ((Int) × ((Int) × qT4))) : Go.Lf.Le (ir_Text_c n a0) (ir_Text a0) := by
  unfold ir_Text_c ir_Text
  repeat' first
    | with_reducible refine Go.Lf.Le.bind ?_ (fun _ => ?_)
    | with_reducible refine Go.Lf.Le.cond ?_ ?_
    | with_reducible refine Go.Lf.Le.loop (fun _ => ?_)
    | with_reducible refine Go.Lf.Le.onSum (fun _ => ?_) (fun _ => ?_)
    | with_reducible exact Go.Lf.Le.refl
noncomputable def ir_twin_c (n : Nat) (a0 : List ((Int) × ((Int) × qT4))) : Option qT14 :=
 (Go.Lf.loopF n (σ := (Int) × qT14) (κ := List ((Int) × ((Int) × qT4))) (fun z1 =>
     bif (decide (z1.1 < (((List.length a0) : Nat) : Int))) then ((Go.Lf.idx a0 z1.1)).bind fun r2 =>
     ((Go.Lf.app (8 : Nat) ([] : List (Int)) r2.2.2.2.1)).bind fun r3 =>
     ((Go.Lf.app (56 : Nat) z1.2 ((r2.1, (r2.2.1, (r2.2.2.1, (r3, r2.2.2.2.2)))) :: ([] : List ((Int) × ((Int) × qT4)))))).bind fun r4 =>
     some (.inl ((Go.IntKind.wrap .i64 (z1.1 + (1 : Int))), r4))
     else some (.inr z1.2)) ((0 : Int), ([] : List ((Int) × ((Int) × qT4)))) : Option qT14).bind fun r5 =>
 some r5
theorem ir_twin_le (n : Nat) (a0 : List ((Int) × ((Int) × qT4))) : Go.Lf.Le (ir_twin_c n a0) (ir_twin a0) := by
  unfold ir_twin_c ir_twin
  repeat' first
    | with_reducible refine Go.Lf.Le.bind ?_ (fun _ => ?_)
    | with_reducible refine Go.Lf.Le.cond ?_ ?_
    | with_reducible refine Go.Lf.Le.loop (fun _ => ?_)
    | with_reducible refine Go.Lf.Le.onSum (fun _ => ?_) (fun _ => ?_)
    | with_reducible exact Go.Lf.Le.refl
noncomputable def ir_Links_c (n : Nat) (a0 : List ((Int) × ((Int) × qT4))) : Option qT14 :=
 ((Go.Fn.ir_twin_c n a0)).bind fun r1 =>
 (Go.Lf.loopF n (σ := (Int) × qT14) (κ := List ((Int) × ((Int) × qT4))) (fun z2 =>
     bif (decide (z2.1 < (((List.length r1) : Nat) : Int))) then (((Go.Lf.idx r1 z2.1)).bind fun r3 =>
       (bif (!(decide ((r3.1 : Int) = (3 : Int)))) then some ((decide ((r3.1 : Int) = (4 : Int))), (z2.2, r3))
         else some (true, (z2.2, r3))).bind fun r4 =>
       bif r4.1 then ((Go.Lf.app (56 : Nat) r4.2.1 (r4.2.2 :: ([] : List ((Int) × ((Int) × qT4)))))).bind fun r5 =>
       some r5
       else some r4.2.1).bind fun r6 =>
     some (.inl ((Go.IntKind.wrap .i64 (z2.1 + (1 : Int))), r6))
     else some (.inr z2.2)) ((0 : Int), ([] : List ((Int) × ((Int) × qT4)))) : Option qT14).bind fun r7 =>
 some r7
theorem ir_Links_le (n : Nat) (a0 : List ((Int) × ((Int) × qT4))) : Go.Lf.Le (ir_Links_c n a0) (ir_Links a0) := by
  unfold ir_Links_c ir_Links
  repeat' first
    | with_reducible exact Go.Fn.ir_twin_le n _
    | with_reducible refine Go.Lf.Le.bind ?_ (fun _ => ?_)
    | with_reducible refine Go.Lf.Le.cond ?_ ?_
    | with_reducible refine Go.Lf.Le.loop (fun _ => ?_)
    | with_reducible refine Go.Lf.Le.onSum (fun _ => ?_) (fun _ => ?_)
    | with_reducible exact Go.Lf.Le.refl
noncomputable def foliolaw11_awake_c (n : Nat)  : Option (Bool) :=
 ((Go.Fn.ir_Sheet_c n ([] : List (qT3 × ((List qT54) × (Unit)))))).bind fun r1 =>
 ((Go.Fn.ir_Lower_c n r1.1 ((((72 : UInt8) :: ((111 : UInt8) :: ((109 : UInt8) :: ((101 : UInt8) :: ([] : List (UInt8)))))), (((104 : UInt8) :: ((111 : UInt8) :: ((109 : UInt8) :: ((101 : UInt8) :: ([] : List (UInt8)))))), ((0 : Int), ((0 : Int), ((0 : Int), ((0 : Int), ())))))) :: ([] : List qT19)) ((0 : Int), (([] : List (UInt8)), (([] : List (UInt8)), ((0 : Int), (([] : List qT9), (([] : List qT9), ((((1 : Int), ((0 : Int), (([] : List (UInt8)), (([] : List (Int)), ((((1 : Int), (((97 : UInt8) :: ((32 : UInt8) :: ([] : List (UInt8)))), (([] : List (UInt8)), ((0 : Int), ((0 : Int), ()))))) :: (((3 : Int), (([] : List (UInt8)), (((72 : UInt8) :: ((79 : UInt8) :: ((77 : UInt8) :: ((69 : UInt8) :: ([] : List (UInt8)))))), ((0 : Int), ((0 : Int), ()))))) :: (((1 : Int), (((103 : UInt8) :: ((111 : UInt8) :: ([] : List (UInt8)))), (([] : List (UInt8)), ((0 : Int), ((0 : Int), ()))))) :: (((5 : Int), (([] : List (UInt8)), (([] : List (UInt8)), ((0 : Int), ((0 : Int), ()))))) :: ([] : List qT16))))), ((0 : Int), ())))))) :: ([] : List qT39)), ((0 : Int), ())))))))) (0 : Int))).bind fun r2 =>
 (bif (!(Option.isSome r1.2)) then bif (!(Option.isSome r2.2)) then bif (!(decide (((((List.length r1.1) : Nat) : Int) : Int) ≠ (6 : Int)))) then bif (!(decide (((((List.length r2.1) : Nat) : Int) : Int) ≠ (6 : Int)))) then ((Go.Lf.idx r2.1 (0 : Int))).bind fun r3 =>
   bif (!(decide ((r3.1 : Int) ≠ (8 : Int)))) then ((Go.Lf.idx r2.1 (0 : Int))).bind fun r4 =>
   bif (!(decide ((r4.2.1 : Int) ≠ (-(1 : Int))))) then ((Go.Lf.idx r2.1 (2 : Int))).bind fun r5 =>
   some (decide ((r5.1 : Int) ≠ (3 : Int)))
   else some true
   else some true
   else some true
   else some true
   else some true
   else some true).bind fun r6 =>
 bif r6 then some false
 else ((Go.Fn.ir_Check_c n r2.1 (6 : Int) (1 : Int))).bind fun r7 =>
 ((Go.Fn.ir_Check_c n (((9 : Int), ((0 : Int), (([] : List (UInt8)), (([] : List (Int)), ())))) :: ([] : List ((Int) × ((Int) × qT4)))) (0 : Int) (0 : Int))).bind fun r8 =>
 (bif (decide ((r7.1 : Int) = (0 : Int))) then bif (decide ((r7.2 : Int) = (0 : Int))) then bif (decide ((r8.1 : Int) = (0 : Int))) then bif (decide ((r8.2 : Int) = (110 : Int))) then ((Go.Fn.ir_Text_c n r2.1)).bind fun r9 =>
   bif (decide ((r9 : List (UInt8)) = ((97 : UInt8) :: ((32 : UInt8) :: ((103 : UInt8) :: ((111 : UInt8) :: ([] : List (UInt8)))))))) then ((Go.Fn.ir_Links_c n r2.1)).bind fun r10 =>
   some (decide (((((List.length r10) : Nat) : Int) : Int) = (1 : Int)))
   else some false
   else some false
   else some false
   else some false
   else some false).bind fun r11 =>
 some r11
theorem foliolaw11_awake_le (n : Nat)  : Go.Lf.Le (foliolaw11_awake_c n ) (foliolaw11_awake ) := by
  unfold foliolaw11_awake_c foliolaw11_awake
  repeat' first
    | with_reducible exact Go.Fn.ir_Check_le n _ _ _
    | with_reducible exact Go.Fn.ir_Links_le n _
    | with_reducible exact Go.Fn.ir_Lower_le n _ _ _ _
    | with_reducible exact Go.Fn.ir_Sheet_le n _
    | with_reducible exact Go.Fn.ir_Text_le n _
    | with_reducible refine Go.Lf.Le.bind ?_ (fun _ => ?_)
    | with_reducible refine Go.Lf.Le.cond ?_ ?_
    | with_reducible refine Go.Lf.Le.loop (fun _ => ?_)
    | with_reducible refine Go.Lf.Le.onSum (fun _ => ?_) (fun _ => ?_)
    | with_reducible exact Go.Lf.Le.refl
noncomputable def folioref06_Base_c (n : Nat)  : Option (List qT20) :=
 some ((((98 : UInt8) :: ([] : List (UInt8))), (([] : List (UInt8)), (((1 : Int), ((0 : Int), ((-(1 : Int)), ()))), ()))) :: ((((105 : UInt8) :: ([] : List (UInt8))), (([] : List (UInt8)), (((2 : Int), ((0 : Int), ((-(1 : Int)), ()))), ()))) :: ((((117 : UInt8) :: ([] : List (UInt8))), (([] : List (UInt8)), (((4 : Int), ((0 : Int), ((-(1 : Int)), ()))), ()))) :: ((((115 : UInt8) :: ([] : List (UInt8))), (([] : List (UInt8)), (((8 : Int), ((0 : Int), ((-(1 : Int)), ()))), ()))) :: ((((109 : UInt8) :: ([] : List (UInt8))), (([] : List (UInt8)), (((16 : Int), ((0 : Int), ((-(1 : Int)), ()))), ()))) :: ((((104 : UInt8) :: ([] : List (UInt8))), (([] : List (UInt8)), (((5 : Int), ((0 : Int), ((-(1 : Int)), ()))), ()))) :: ([] : List qT20)))))))
theorem folioref06_Base_le (n : Nat)  : Go.Lf.Le (folioref06_Base_c n ) (folioref06_Base ) := by
  unfold folioref06_Base_c folioref06_Base
  repeat' first
    | with_reducible refine Go.Lf.Le.bind ?_ (fun _ => ?_)
    | with_reducible refine Go.Lf.Le.cond ?_ ?_
    | with_reducible refine Go.Lf.Le.loop (fun _ => ?_)
    | with_reducible refine Go.Lf.Le.onSum (fun _ => ?_) (fun _ => ?_)
    | with_reducible exact Go.Lf.Le.refl
noncomputable def folioref06_words_c (n : Nat) (a0 : List (UInt8)) : Option (List (List (UInt8))) :=
 (Go.Lf.loopF n (σ := (Int) × ((Int) × (List (List (UInt8))))) (κ := List (List (UInt8))) (fun z1 =>
     bif (decide (z1.1 ≤ (((List.length a0) : Nat) : Int))) then ((bif (decide (z1.1 < (((List.length a0) : Nat) : Int))) then ((Go.Lf.idx a0 z1.1)).bind fun r2 =>
         some ((decide (((((UInt8.toNat r2) : Nat) : Int) : Int) ≠ (32 : Int))), z1.2.2)
         else some (false, z1.2.2)).bind fun r3 =>
       bif r3.1 then some (z1.2.1, r3.2)
       else (bif (decide (z1.2.1 < z1.1)) then ((Go.Lf.sub a0 z1.2.1 z1.1)).bind fun r4 =>
         ((Go.Lf.app (16 : Nat) r3.2 (r4 :: ([] : List (List (UInt8)))))).bind fun r5 =>
         some r5
         else some r3.2).bind fun r6 =>
       some ((Go.IntKind.wrap .i64 (z1.1 + (1 : Int))), r6)).bind fun r7 =>
     some (.inl ((Go.IntKind.wrap .i64 (z1.1 + (1 : Int))), (r7.1, r7.2)))
     else some (.inr z1.2.2)) ((0 : Int), ((0 : Int), ([] : List (List (UInt8))))) : Option (List (List (UInt8)))).bind fun r8 =>
 some r8
theorem folioref06_words_le (n : Nat) (a0 : List (UInt8)) : Go.Lf.Le (folioref06_words_c n a0) (folioref06_words a0) := by
  unfold folioref06_words_c folioref06_words
  repeat' first
    | with_reducible refine Go.Lf.Le.bind ?_ (fun _ => ?_)
    | with_reducible refine Go.Lf.Le.cond ?_ ?_
    | with_reducible refine Go.Lf.Le.loop (fun _ => ?_)
    | with_reducible refine Go.Lf.Le.onSum (fun _ => ?_) (fun _ => ?_)
    | with_reducible exact Go.Lf.Le.refl
noncomputable def folioref06_None_c (n : Nat)  : Option ((Int) × ((Int) × ((Int) × (Unit)))) :=
 some ((0 : Int), ((0 : Int), ((-(1 : Int)), ())))
theorem folioref06_None_le (n : Nat)  : Go.Lf.Le (folioref06_None_c n ) (folioref06_None ) := by
  unfold folioref06_None_c folioref06_None
  repeat' first
    | with_reducible refine Go.Lf.Le.bind ?_ (fun _ => ?_)
    | with_reducible refine Go.Lf.Le.cond ?_ ?_
    | with_reducible refine Go.Lf.Le.loop (fun _ => ?_)
    | with_reducible refine Go.Lf.Le.onSum (fun _ => ?_) (fun _ => ?_)
    | with_reducible exact Go.Lf.Le.refl
noncomputable def folioref06_Name_c (n : Nat) (a0 : List (UInt8)) : Option (Bool) :=
 (Go.Lf.loopF n (σ := Int) (κ := (Unit) ⊕ (Bool)) (fun z1 =>
     bif (decide (z1 < (((List.length a0) : Nat) : Int))) then (((Go.Lf.idx a0 z1)).bind fun r2 =>
       bif (!(decide ((((UInt8.toNat r2) : Nat) : Int) < (97 : Int)))) then ((Go.Lf.idx a0 z1)).bind fun r3 =>
       some (decide ((122 : Int) < (((UInt8.toNat r3) : Nat) : Int)))
       else some true).bind fun r4 =>
     bif r4 then some (.inr (.inr false))
     else some (.inl (Go.IntKind.wrap .i64 (z1 + (1 : Int))))
     else some (.inr (.inl ()))) (0 : Int) : Option ((Unit) ⊕ (Bool))).bind fun r5 =>
 Go.Lf.onSum r5 (fun a6 =>
 (bif (decide ((1 : Int) ≤ (((List.length a0) : Nat) : Int))) then some (decide ((((List.length a0) : Nat) : Int) ≤ (12 : Int)))
   else some false).bind fun r7 =>
 some r7) (fun b8 =>
 some b8)
theorem folioref06_Name_le (n : Nat) (a0 : List (UInt8)) : Go.Lf.Le (folioref06_Name_c n a0) (folioref06_Name a0) := by
  unfold folioref06_Name_c folioref06_Name
  repeat' first
    | with_reducible refine Go.Lf.Le.bind ?_ (fun _ => ?_)
    | with_reducible refine Go.Lf.Le.cond ?_ ?_
    | with_reducible refine Go.Lf.Le.loop (fun _ => ?_)
    | with_reducible refine Go.Lf.Le.onSum (fun _ => ?_) (fun _ => ?_)
    | with_reducible exact Go.Lf.Le.refl
noncomputable def folioref06_names_c (n : Nat) (a0 : List (UInt8)) : Option ((List (UInt8)) × ((List (UInt8)) × (Bool))) :=
 (Go.Lf.loopF n (σ := Int) (κ := (Unit) ⊕ ((List (UInt8)) × ((List (UInt8)) × (Bool)))) (fun z1 =>
     bif (decide (z1 < (((List.length a0) : Nat) : Int))) then ((Go.Lf.idx a0 z1)).bind fun r2 =>
     bif (decide (((((UInt8.toNat r2) : Nat) : Int) : Int) = (58 : Int))) then (((Go.Lf.sub a0 (0 : Int) z1)).bind fun r3 =>
       ((Go.Lf.sub a0 (Go.IntKind.wrap .i64 (z1 + (1 : Int))) (((List.length a0) : Nat) : Int))).bind fun r4 =>
       ((Go.Lf.sub a0 (0 : Int) z1)).bind fun r5 =>
       ((Go.Fn.folioref06_Name_c n r5)).bind fun r6 =>
       bif r6 then ((Go.Lf.sub a0 (Go.IntKind.wrap .i64 (z1 + (1 : Int))) (((List.length a0) : Nat) : Int))).bind fun r7 =>
       ((Go.Fn.folioref06_Name_c n r7)).bind fun r8 =>
       some (r3, (r4, r8))
       else some (r3, (r4, false))).bind fun r9 =>
     some (.inr (.inr (r9.1, (r9.2.1, r9.2.2))))
     else some (.inl (Go.IntKind.wrap .i64 (z1 + (1 : Int))))
     else some (.inr (.inl ()))) (0 : Int) : Option ((Unit) ⊕ ((List (UInt8)) × ((List (UInt8)) × (Bool))))).bind fun r10 =>
 Go.Lf.onSum r10 (fun a11 =>
 ((Go.Fn.folioref06_Name_c n a0)).bind fun r12 =>
 some (a0, (([] : List (UInt8)), r12))) (fun b13 =>
 some (b13.1, (b13.2.1, b13.2.2)))
theorem folioref06_names_le (n : Nat) (a0 : List (UInt8)) : Go.Lf.Le (folioref06_names_c n a0) (folioref06_names a0) := by
  unfold folioref06_names_c folioref06_names
  repeat' first
    | with_reducible exact Go.Fn.folioref06_Name_le n _
    | with_reducible refine Go.Lf.Le.bind ?_ (fun _ => ?_)
    | with_reducible refine Go.Lf.Le.cond ?_ ?_
    | with_reducible refine Go.Lf.Le.loop (fun _ => ?_)
    | with_reducible refine Go.Lf.Le.onSum (fun _ => ?_) (fun _ => ?_)
    | with_reducible exact Go.Lf.Le.refl
noncomputable def folioref06_color_c (n : Nat) (a0 : List (UInt8)) : Option ((Int) × (Bool)) :=
 (Go.Lf.loopF n (σ := Int) (κ := (Unit) ⊕ ((Int) × (Bool))) (fun z1 =>
     bif (decide (z1 ≤ (15 : Int))) then ((Go.Fn.strconv_Itoa_c n z1)).bind fun r2 =>
     bif (decide ((r2 : List (UInt8)) = a0)) then some (.inr (.inr (z1, true)))
     else some (.inl (Go.IntKind.wrap .i64 (z1 + (1 : Int))))
     else some (.inr (.inl ()))) (0 : Int) : Option ((Unit) ⊕ ((Int) × (Bool)))).bind fun r3 =>
 Go.Lf.onSum r3 (fun a4 =>
 some ((0 : Int), false)) (fun b5 =>
 some (b5.1, b5.2))
theorem folioref06_color_le (n : Nat) (a0 : List (UInt8)) : Go.Lf.Le (folioref06_color_c n a0) (folioref06_color a0) := by
  unfold folioref06_color_c folioref06_color
  repeat' first
    | with_reducible exact Go.Fn.strconv_Itoa_le n _
    | with_reducible refine Go.Lf.Le.bind ?_ (fun _ => ?_)
    | with_reducible refine Go.Lf.Le.cond ?_ ?_
    | with_reducible refine Go.Lf.Le.loop (fun _ => ?_)
    | with_reducible refine Go.Lf.Le.onSum (fun _ => ?_) (fun _ => ?_)
    | with_reducible exact Go.Lf.Le.refl
noncomputable def folioref06_Words_c (n : Nat)  : Option (List (List (UInt8))) :=
 some (((98 : UInt8) :: ((111 : UInt8) :: ((108 : UInt8) :: ((100 : UInt8) :: ([] : List (UInt8)))))) :: (((105 : UInt8) :: ((116 : UInt8) :: ((97 : UInt8) :: ((108 : UInt8) :: ((105 : UInt8) :: ((99 : UInt8) :: ([] : List (UInt8)))))))) :: (((117 : UInt8) :: ((110 : UInt8) :: ((100 : UInt8) :: ((101 : UInt8) :: ((114 : UInt8) :: ([] : List (UInt8))))))) :: (((115 : UInt8) :: ((116 : UInt8) :: ((114 : UInt8) :: ((105 : UInt8) :: ((107 : UInt8) :: ((101 : UInt8) :: ([] : List (UInt8)))))))) :: (((109 : UInt8) :: ((111 : UInt8) :: ((110 : UInt8) :: ((111 : UInt8) :: ([] : List (UInt8)))))) :: (((115 : UInt8) :: ((109 : UInt8) :: ((97 : UInt8) :: ((108 : UInt8) :: ((108 : UInt8) :: ([] : List (UInt8))))))) :: (((114 : UInt8) :: ((101 : UInt8) :: ((118 : UInt8) :: ((101 : UInt8) :: ((114 : UInt8) :: ((115 : UInt8) :: ((101 : UInt8) :: ([] : List (UInt8))))))))) :: ([] : List (List (UInt8))))))))))
theorem folioref06_Words_le (n : Nat)  : Go.Lf.Le (folioref06_Words_c n ) (folioref06_Words ) := by
  unfold folioref06_Words_c folioref06_Words
  repeat' first
    | with_reducible refine Go.Lf.Le.bind ?_ (fun _ => ?_)
    | with_reducible refine Go.Lf.Le.cond ?_ ?_
    | with_reducible refine Go.Lf.Le.loop (fun _ => ?_)
    | with_reducible refine Go.Lf.Le.onSum (fun _ => ?_) (fun _ => ?_)
    | with_reducible exact Go.Lf.Le.refl
noncomputable def folioref06_bit_c (n : Nat) (a0 : List (UInt8)) : Option (Int) :=
 (Go.Fn.folioref06_Words_c n).bind fun r1 =>
 (Go.Lf.loopF n (σ := Int) (κ := (Unit) ⊕ (Int)) (fun z2 =>
     bif (decide (z2 < (((List.length r1) : Nat) : Int))) then ((Go.Lf.idx r1 z2)).bind fun r3 =>
     bif (decide ((r3 : List (UInt8)) = a0)) then ((Go.Lf.nn (Go.IntKind.wrap .u64 z2) (Go.IntKind.wrap .i64 ((1 : Int) * ((2 : Int) ^ (Min.min (Int.toNat (Go.IntKind.wrap .u64 z2)) (64 : Nat))))))).bind fun r4 =>
     some (.inr (.inr r4))
     else some (.inl (Go.IntKind.wrap .i64 (z2 + (1 : Int))))
     else some (.inr (.inl ()))) (0 : Int) : Option ((Unit) ⊕ (Int))).bind fun r5 =>
 Go.Lf.onSum r5 (fun a6 =>
 some (0 : Int)) (fun b7 =>
 some b7)
theorem folioref06_bit_le (n : Nat) (a0 : List (UInt8)) : Go.Lf.Le (folioref06_bit_c n a0) (folioref06_bit a0) := by
  unfold folioref06_bit_c folioref06_bit
  repeat' first
    | with_reducible exact Go.Fn.folioref06_Words_le n
    | with_reducible refine Go.Lf.Le.bind ?_ (fun _ => ?_)
    | with_reducible refine Go.Lf.Le.cond ?_ ?_
    | with_reducible refine Go.Lf.Le.loop (fun _ => ?_)
    | with_reducible refine Go.Lf.Le.onSum (fun _ => ?_) (fun _ => ?_)
    | with_reducible exact Go.Lf.Le.refl
noncomputable def folioref06_Parse_c (n : Nat) (a0 : List (UInt8)) : Option (qT20 × (Int)) :=
 bif (decide ((4096 : Int) < (((List.length a0) : Nat) : Int))) then some ((([] : List (UInt8)), (([] : List (UInt8)), (((0 : Int), ((0 : Int), ((0 : Int), ()))), ()))), (2 : Int))
 else ((Go.Fn.folioref06_words_c n a0)).bind fun r1 =>
 bif (decide (((((List.length r1) : Nat) : Int) : Int) = (0 : Int))) then some ((([] : List (UInt8)), (([] : List (UInt8)), (((0 : Int), ((0 : Int), ((0 : Int), ()))), ()))), (67 : Int))
 else (Go.Fn.folioref06_None_c n).bind fun r2 =>
 ((Go.Lf.idx r1 (0 : Int))).bind fun r3 =>
 ((Go.Fn.folioref06_names_c n r3)).bind fun r4 =>
 (Go.Lf.loopF n (σ := (Int) × ((Bool) × (qT20 × qT20))) (κ := (Bool) × (qT20 × qT20)) (fun z5 =>
     (bif (decide (z5.1 < (((List.length r1) : Nat) : Int))) then some (z5.2.1, (z5.2.2.1, z5.2.2.2))
       else some (false, (z5.2.2.1, z5.2.2.2))).bind fun r6 =>
     bif r6.1 then (((Go.Lf.idx r1 z5.1)).bind fun r7 =>
       bif (decide ((r7 : List (UInt8)) = ((99 : UInt8) :: ((111 : UInt8) :: ((108 : UInt8) :: ((111 : UInt8) :: ((114 : UInt8) :: ([] : List (UInt8))))))))) then (bif (decide ((r6.2.1.2.2.1.2.2.1 : Int) = (-(1 : Int)))) then some ((decide ((Go.IntKind.wrap .i64 (z5.1 + (1 : Int))) < (((List.length r1) : Nat) : Int))), (r6.2.1, r6.2.2))
         else some (false, (r6.2.1, r6.2.2))).bind fun r8 =>
       (bif r8.1 then ((Go.Lf.idx r1 (Go.IntKind.wrap .i64 (z5.1 + (1 : Int))))).bind fun r9 =>
         ((Go.Fn.folioref06_color_c n r9)).bind fun r10 =>
         some (r10.2, (r10.1, (r8.2.1, r8.2.2)))
         else some (r8.1, ((0 : Int), (r8.2.1, r8.2.2)))).bind fun r11 =>
       some (r11.1, ((Go.IntKind.wrap .i64 (z5.1 + (1 : Int))), ((r11.2.2.1.1, (r11.2.2.1.2.1, ((r11.2.2.1.2.2.1.1, (r11.2.2.1.2.2.1.2.1, (r11.2.1, r11.2.2.1.2.2.1.2.2.2))), r11.2.2.1.2.2.2))), r11.2.2.2)))
       else (((Go.Lf.idx r1 z5.1)).bind fun r12 =>
         ((Go.Lf.idx r12 (0 : Int))).bind fun r13 =>
         bif (!(decide (((((UInt8.toNat r13) : Nat) : Int) : Int) = (43 : Int)))) then ((Go.Lf.idx r1 z5.1)).bind fun r14 =>
         ((Go.Lf.idx r14 (0 : Int))).bind fun r15 =>
         some ((decide (((((UInt8.toNat r15) : Nat) : Int) : Int) = (45 : Int))), (r6.2.1, r6.2.2))
         else some (true, (r6.2.1, r6.2.2))).bind fun r16 =>
       bif r16.1 then ((Go.Lf.idx r1 z5.1)).bind fun r17 =>
       ((Go.Lf.sub r17 (1 : Int) (((List.length r17) : Nat) : Int))).bind fun r18 =>
       ((Go.Fn.folioref06_bit_c n r18)).bind fun r19 =>
       (bif (decide ((r19 : Int) ≠ (0 : Int))) then some ((decide (((Go.Lf.bits .and .i64 (Go.Lf.bits .or .i64 r16.2.1.2.2.1.1 r16.2.1.2.2.1.2.1) r19) : Int) = (0 : Int))), (r16.2.1, r16.2.2))
         else some (false, (r16.2.1, r16.2.2))).bind fun r20 =>
       ((Go.Lf.idx r1 z5.1)).bind fun r21 =>
       ((Go.Lf.idx r21 (0 : Int))).bind fun r22 =>
       bif (decide (((((UInt8.toNat r22) : Nat) : Int) : Int) = (43 : Int))) then some (r20.1, (z5.1, ((r20.2.1.1, (r20.2.1.2.1, (((Go.Lf.bits .or .i64 r20.2.1.2.2.1.1 r19), r20.2.1.2.2.1.2), r20.2.1.2.2.2))), r20.2.2)))
       else some (r20.1, (z5.1, ((r20.2.1.1, (r20.2.1.2.1, ((r20.2.1.2.2.1.1, ((Go.Lf.bits .or .i64 r20.2.1.2.2.1.2.1 r19), r20.2.1.2.2.1.2.2)), r20.2.1.2.2.2))), r20.2.2)))
       else some (false, (z5.1, (r16.2.1, r16.2.2)))).bind fun r23 =>
     some (.inl ((Go.IntKind.wrap .i64 (r23.2.1 + (1 : Int))), (r23.1, (r23.2.2.1, r23.2.2.2))))
     else some (.inr (z5.2.1, (r6.2.2, r6.2.1)))) ((1 : Int), (r4.2.2, ((r4.1, (r4.2.1, (r2, ()))), (([] : List (UInt8)), (([] : List (UInt8)), (((0 : Int), ((0 : Int), ((0 : Int), ()))), ())))))) : Option ((Bool) × (qT20 × qT20))).bind fun r24 =>
 bif (!r24.1) then some ((([] : List (UInt8)), (([] : List (UInt8)), (((0 : Int), ((0 : Int), ((0 : Int), ()))), ()))), (67 : Int))
 else some (r24.2.2, (0 : Int))
theorem folioref06_Parse_le (n : Nat) (a0 : List (UInt8)) : Go.Lf.Le (folioref06_Parse_c n a0) (folioref06_Parse a0) := by
  unfold folioref06_Parse_c folioref06_Parse
  repeat' first
    | with_reducible exact Go.Fn.folioref06_None_le n
    | with_reducible exact Go.Fn.folioref06_bit_le n _
    | with_reducible exact Go.Fn.folioref06_color_le n _
    | with_reducible exact Go.Fn.folioref06_names_le n _
    | with_reducible exact Go.Fn.folioref06_words_le n _
    | with_reducible refine Go.Lf.Le.bind ?_ (fun _ => ?_)
    | with_reducible refine Go.Lf.Le.cond ?_ ?_
    | with_reducible refine Go.Lf.Le.loop (fun _ => ?_)
    | with_reducible refine Go.Lf.Le.onSum (fun _ => ?_) (fun _ => ?_)
    | with_reducible exact Go.Lf.Le.refl
noncomputable def foliolaw11_sheets_c (n : Nat) (a0 : List qT20) (a1 : List qT20) : Option (Bool) :=
 bif (decide (((((List.length a0) : Nat) : Int) : Int) ≠ (((List.length a1) : Nat) : Int))) then some false
 else (Go.Lf.loopF n (σ := Int) (κ := (Unit) ⊕ (Bool)) (fun z1 =>
     bif (decide (z1 < (((List.length a0) : Nat) : Int))) then (((Go.Lf.idx a0 z1)).bind fun r2 =>
       ((Go.Lf.idx a1 z1)).bind fun r3 =>
       bif (!(decide ((r2.1 : List (UInt8)) ≠ r3.1))) then ((Go.Lf.idx a0 z1)).bind fun r4 =>
       ((Go.Lf.idx a1 z1)).bind fun r5 =>
       bif (!(decide ((r4.2.1 : List (UInt8)) ≠ r5.2.1))) then ((Go.Lf.idx a0 z1)).bind fun r6 =>
       ((Go.Lf.idx a1 z1)).bind fun r7 =>
       bif (!(decide ((r6.2.2.1.1 : Int) ≠ r7.2.2.1.1))) then ((Go.Lf.idx a0 z1)).bind fun r8 =>
       ((Go.Lf.idx a1 z1)).bind fun r9 =>
       bif (!(decide ((r8.2.2.1.2.1 : Int) ≠ r9.2.2.1.2.1))) then ((Go.Lf.idx a0 z1)).bind fun r10 =>
       ((Go.Lf.idx a1 z1)).bind fun r11 =>
       some (decide ((r10.2.2.1.2.2.1 : Int) ≠ r11.2.2.1.2.2.1))
       else some true
       else some true
       else some true
       else some true).bind fun r12 =>
     bif r12 then some (.inr (.inr false))
     else some (.inl (Go.IntKind.wrap .i64 (z1 + (1 : Int))))
     else some (.inr (.inl ()))) (0 : Int) : Option ((Unit) ⊕ (Bool))).bind fun r13 =>
 Go.Lf.onSum r13 (fun a14 =>
 some true) (fun b15 =>
 some b15)
theorem foliolaw11_sheets_le (n : Nat) (a0 : List qT20) (a1 : List qT20) : Go.Lf.Le (foliolaw11_sheets_c n a0 a1) (foliolaw11_sheets a0 a1) := by
  unfold foliolaw11_sheets_c foliolaw11_sheets
  repeat' first
    | with_reducible refine Go.Lf.Le.bind ?_ (fun _ => ?_)
    | with_reducible refine Go.Lf.Le.cond ?_ ?_
    | with_reducible refine Go.Lf.Le.loop (fun _ => ?_)
    | with_reducible refine Go.Lf.Le.onSum (fun _ => ?_) (fun _ => ?_)
    | with_reducible exact Go.Lf.Le.refl
noncomputable def foliolaw11_IrSheets_c (n : Nat) (a0 : List (qT3 × ((List qT54) × (Unit)))) : Option (Bool) :=
 (Go.Fn.foliolaw11_awake_c n).bind fun r1 =>
 bif (!r1) then some false
 else ((Go.Fn.ir_Sheet_c n a0)).bind fun r2 =>
 bif (Option.isSome r2.2) then some (decide (((((List.length r2.1) : Nat) : Int) : Int) = (0 : Int)))
 else (Go.Fn.folioref06_Base_c n).bind fun r3 =>
 (Go.Lf.loopF n (σ := (List qT20) × (Int)) (κ := (List qT20) ⊕ (Bool)) (fun z4 =>
     bif (decide (z4.2 < (((List.length a0) : Nat) : Int))) then ((Go.Lf.idx a0 z4.2)).bind fun r5 =>
     (Go.Lf.loopF n (σ := (Int) × (List qT20)) (κ := (List qT20) ⊕ (Bool)) (fun z6 =>
         bif (decide (z6.1 < (((List.length r5.1) : Nat) : Int))) then ((Go.Lf.idx r5.1 z6.1)).bind fun r7 =>
         ((Go.Fn.folioref06_Parse_c n r7.1)).bind fun r8 =>
         bif (decide ((r8.2 : Int) ≠ (0 : Int))) then some (.inr (.inr false))
         else ((Go.Lf.app (56 : Nat) z6.2 (r8.1 :: ([] : List qT20)))).bind fun r9 =>
         some (.inl ((Go.IntKind.wrap .i64 (z6.1 + (1 : Int))), r9))
         else some (.inr (.inl z6.2))) ((0 : Int), z4.1) : Option ((List qT20) ⊕ (Bool))).bind fun r10 =>
     Go.Lf.onSum r10 (fun a11 =>
     some (.inl (a11, (Go.IntKind.wrap .i64 (z4.2 + (1 : Int)))))) (fun b12 =>
     some (.inr (.inr b12)))
     else some (.inr (.inl z4.1))) (r3, (0 : Int)) : Option ((List qT20) ⊕ (Bool))).bind fun r13 =>
 Go.Lf.onSum r13 (fun a14 =>
 ((Go.Lf.app (56 : Nat) ([] : List qT20) r2.1)).bind fun r15 =>
 ((Go.Fn.style_Check_c n r15)).bind fun r16 =>
 (((Go.Fn.foliolaw11_sheets_c n r2.1 a14)).bind fun r17 =>
   bif r17 then bif (decide ((r16.1 : Int) = (0 : Int))) then some (decide ((r16.2 : Int) = (0 : Int)))
   else some false
   else some false).bind fun r18 =>
 some r18) (fun b19 =>
 some b19)
theorem foliolaw11_IrSheets_le (n : Nat) (a0 : List (qT3 × ((List qT54) × (Unit)))) : Go.Lf.Le (foliolaw11_IrSheets_c n a0) (foliolaw11_IrSheets a0) := by
  unfold foliolaw11_IrSheets_c foliolaw11_IrSheets
  repeat' first
    | with_reducible exact Go.Fn.foliolaw11_awake_le n
    | with_reducible exact Go.Fn.foliolaw11_sheets_le n _ _
    | with_reducible exact Go.Fn.folioref06_Base_le n
    | with_reducible exact Go.Fn.folioref06_Parse_le n _
    | with_reducible exact Go.Fn.ir_Sheet_le n _
    | with_reducible exact Go.Fn.style_Check_le n _
    | with_reducible refine Go.Lf.Le.bind ?_ (fun _ => ?_)
    | with_reducible refine Go.Lf.Le.cond ?_ ?_
    | with_reducible refine Go.Lf.Le.loop (fun _ => ?_)
    | with_reducible refine Go.Lf.Le.onSum (fun _ => ?_) (fun _ => ?_)
    | with_reducible exact Go.Lf.Le.refl
end Go.Fn
/- The chapter's first examples, reckoned. -/
namespace Go.Fn
open Go Go.Lf
theorem awake_c : foliolaw11_awake_c 60 = some true := by kernel_rfl
theorem awake : foliolaw11_awake = some true := foliolaw11_awake_le 60 _ awake_c
end Go.Fn
/-
  From a function's entry to a row's statement: the arguments are opened, nothing old has turned, so all reads as before.
-/
namespace Go.Lf
open Go Go.Eng Go.RowKit Go.ChangeShapes Go.WideShapes Go.ChangeMaps Go.ChangeAt

section
variable {H : Type} {enc : TypeId × Value → H} {P : Program}
def allRead (P : Program) (ts : List TypeId) : Bool := ts.all fun t => P.readableRec t && decide (t < P.types.size)
theorem trodAll_stay (hl : laidOutB P = true) {W W' : World} (hb : Below W.heap.size W W') : ∀ (ts : List TypeId) (vs : List Value) (ds : List (DataW H)) (ps : List MemPlace), allRead P ts = true →
    DataW.TrodAll enc P W 0 (fun _ => true) true ts vs ds ps → (∀ x ∈ ps, x.block < W.heap.size) → DataW.TrodAll enc P W' 0 (fun b => decide (b < W.heap.size)) true ts vs ds ps
  | [], [], [], _, _, h, _ => h
  | [], _ :: _, _, _, _, h, _ => h.elim
  | [], [], _ :: _, _, _, h, _ => h.elim
  | _ :: _, [], _, _, _, h, _ => h.elim
  | _ :: _, _ :: _, [], _, _, h, _ => h.elim
  | t :: ts, v :: vs, d :: ds, ps, hr, h, hlt => by
    obtain ⟨p, q, h1, h2, rfl⟩ := h
    simp only [allRead, List.all_cons, Bool.and_eq_true, decide_eq_true_eq] at hr
    exact ⟨p, q, Below.trod hl hr.1.1 hr.1.2 h1 hb (fun x hx => hlt x (List.mem_append_left _ hx)), trodAll_stay hl hb ts vs ds q hr.2 h2 (fun x hx => hlt x (List.mem_append_right _ hx)), rfl⟩
/-- The law answered true, and nothing old has turned. -/
theorem law_post {f : Func} {s : ChangeSpec} {W W' : World} {args : Array Value} {ds gs : List (DataW H)} {before : List MemPlace} {tb : TypeId} (hl : laidOutB P = true) (hr : allRead P f.params.toList = true) (hv : s.vars = [])
    (hres : f.resultTypes = #[tb]) (htb : P.underlying tb = some .bool) (hW : DataW.Whole enc P f.params.toList s.vars false W args.toList ds gs before)
    (hs : s.fn H (ds ++ gs) = { results := [.lit (.bool true)], args := ds, vars := [] }) (hb : Below W.heap.size W W') : s.post enc P f false true false false W args (.bool true) W' := by
  have hlt : ∀ p ∈ before, p.block < W.heap.size := fun p hp => hW.lt p hp
  have hW0 := hW
  obtain ⟨p, q, hA, hV, hps, _, _⟩ := hW
  rw [hv] at hV
  obtain ⟨rfl, rfl⟩ := trodVars_none hV
  refine ⟨ds, [], before, [], p, [], hW0, ?_, ?_, ?_, hb.frame _, fun h => by cases h⟩
  · rw [hs, hres]
    exact trodAll_mk1 (shut_bool htb true)
  · rw [hs]
    exact trodAll_stay hl hb _ _ _ _ hr hA (fun x hx => hlt x (by rw [hps]; exact List.mem_append_left _ hx))
  · rw [hs, hv]
    rfl
end

/-- The state that a law begins with. -/
def start (W : World) : Cx := ⟨W, [], fun _ => none⟩
def Lasts (W : World) (I : World → Prop) : Prop := ∀ w', Below W.heap.size W w' → I w'
theorem Lasts.and {W : World} {I J : World → Prop} (h : Lasts W I) (k : Lasts W J) : Lasts W (fun w => I w ∧ J w) := fun w' hb => ⟨h w' hb, k w' hb⟩
theorem Lasts.of {W : World} {p : Prop} (h : p) : Lasts W (fun _ => p) := fun _ _ => h
theorem hb_start {W : World} {I : World → Prop} (h : Lasts W I) : Hb (start W) (start W).w0 [] I :=
  ⟨⟨rfl, rfl, rfl, Nat.le_refl _, fun _ _ _ => rfl, fun c hc => absurd hc (by simp [start]), fun c hc => absurd hc (by simp [start]), fun c hc => absurd hc (by simp), fun c hc => absurd hc (by simp), List.Pairwise.nil, fun k m hk => by cases hk⟩,
   fun w' hx => h w' ⟨hx.os, hx.tape, hx.output, hx.size, fun k hk => hx.block k hk rfl (fun c hc => absurd hc (by simp))⟩⟩
theorem cell_lt {W : World} {a : Addr} {v : Value} (h : W.cell? a = some v) : a.block < W.heap.size := by
  rcases Nat.lt_or_ge a.block W.heap.size with h1 | h1
  · exact h1
  · simp [World.cell?, Array.getElem?_eq_none h1] at h
/-- all memory, as it lies -/
def phiOf (W : World) : Phi := fun a => W.cell? a
theorem lasts_agree (W : World) : Lasts W (Agree (phiOf W)) := fun _ hb a _ h => (hb.cell (cell_lt h)).trans h
theorem lasts_var {P : Program} {W : World} {name : String} {cs : Array Value} (h : W.var? P name = some cs) : Lasts W (fun w => w.var? P name = some cs) := fun w' hb => by
  unfold World.var? at *
  cases hg : P.globalNamed name with
  | none => rw [hg] at h; simp at h
  | some g =>
    rw [hg] at h
    simp only [Option.bind_some] at *
    by_cases hlt : g < W.heap.size
    · rw [hb.block g hlt]; exact h
    · rw [Array.getElem?_eq_none (by omega)] at h; simp at h
theorem law_calls {P : Program} {G : World → Prop} {f : Nat} {e : Entry} {z : prodT (e.ps.map Par.ty)} {W : World} {vals : List Value} (he : EntryOk P G f e) (hr : e.rs = [.bool]) (ho : outs e.ps = []) {r : prodT (e.rs ++ outs e.ps)} (hz : e.f z = some r) (ht : unProd (e.rs ++ outs e.ps) r = [⟨.bool, true⟩])
    (ha : ArgsR (phiOf W) e.ps z vals [] []) (hG : Lasts W G) : Calls P f vals.toArray W fun e W' => e = .returned (.bool true) ∧ Below W.heap.size W W' := by
  refine Calls.mono (he.ok z r hz (start W) (phiOf W) vals [] [] ha (hb_start (hG.and (lasts_agree W)))) ?_
  rintro x w' ⟨v, φ', h1, h2, rfl, _, hb, ⟨vs, hv, rfl⟩, _⟩
  rw [ht, hr] at hv
  refine ⟨?_, hb.hp.os, hb.hp.tape, hb.hp.output, hb.hp.size, fun k hk => hb.hp.keep k hk (by simp [start, free])⟩
  cases hv with
  | cons a1 a2 a3 =>
    cases a3
    obtain ⟨rfl, _⟩ := a2
    rfl

/-! ### The arguments -/
section
variable {H : Type} (enc : TypeId × Value → H) (P : Program) (W : World)
def Light (P : Program) (t : TypeId) (d : DataW H) : Prop := ∀ x ∈ d.weights P t, x ≤ reachBytes
end
def rnd (o a : Nat) : Nat := (o + a - 1) / a * a
/-- how a type lies in bytes: its alignment -/
def Ty.aln : Ty → Nat
  | .int k => k.bits / 8
  | .bool => 1
  | .unit => 1
  | .st t => t.aln
  | .pr a b => max a.aln b.aln
  | _ => 8
mutual
def Ty.byt : Ty → Nat
  | .int k => k.bits / 8
  | .bool => 1
  | .str => 16
  | .sl _ => 24
  | .rw _ _ => 24
  | .mr _ _ => 24
  | .it => 8
  | .itd => 8
  | .dead _ _ => 24
  | .eb _ _ => 16
  | .op _ => 8
  | .bx _ _ => 8
  | .on _ => 8
  | .ptr _ => 8
  | .st t => rnd (t.end_ 0) t.aln
  | _ => 0
/-- the end of a struct's fields from an offset on -/
def Ty.end_ : Ty → Nat → Nat
  | .pr a b, o => b.end_ (rnd o a.aln + a.byt)
  | _, o => o
end
/-- numbers that are of their kinds, lengths that lie in memory -/
def Wf : (t : Ty) → t.den → Prop
  | .int k, x => k.min ≤ x ∧ x ≤ k.max
  | .str, x => List.length x ≤ 140737488351232
  | .sl t, l => List.length l * t.byt ≤ 140737488351232 ∧ ∀ x ∈ (l : List t.den), Wf t x
  | .st t, x => Wf t x
  | .pr a b, x => Wf a x.1 ∧ Wf b x.2
  | _, _ => True
/-- how much a value holds -/
def Sz : (t : Ty) → t.den → Nat
  | .str, x => List.length x
  | .sl t, l => ((l : List t.den).map (Sz t)).sum + List.length l
  | .st t, x => Sz t x
  | .pr a b, x => Sz a x.1 + Sz b x.2
  | _, _ => 0
mutual
/-- how much data hold -/
def bulk {H : Type} : DataW H → Nat
  | .lit (.string b) => b.length
  | .slice es _ => bulkAll es + es.length
  | .agg ps => bulkAll ps
  | _ => 0
def bulkAll {H : Type} : List (DataW H) → Nat
  | [] => 0
  | d :: r => bulk d + bulkAll r
end
theorem bulkAll_map {H : Type} : ∀ l : List (DataW H), bulkAll l = (l.map bulk).sum
  | [] => rfl
  | d :: r => by
    rw [bulkAll, bulkAll_map r]; rfl
theorem sum_le2 {α β : Type} {f : α → Nat} {g : β → Nat} : ∀ {l : List α} {m : List β}, l.length = m.length → (∀ (i : Nat) x y, l[i]? = some x → m[i]? = some y → f x ≤ g y) → (l.map f).sum ≤ (m.map g).sum
  | [], [], _, _ => Nat.le_refl _
  | [], _ :: _, h, _ => by simp at h
  | _ :: _, [], h, _ => by simp at h
  | x :: l, y :: m, h, hR => by
    have h1 := hR 0 x y rfl rfl
    have h2 := sum_le2 (l := l) (m := m) (by simpa using h) fun i a b ha hb => hR (i + 1) a b (by simpa using ha) (by simpa using hb)
    simp only [List.map_cons, List.sum_cons]
    omega
/-- a type's number says this type -/
def opB (P : Program) : Ty → TypeId ⊕ (List Field × Nat) → Bool
  | .int k, .inl t => match P.underlying t with | some (.int k') => decide (k = k') | _ => false
  | .bool, .inl t => match P.underlying t with | some .bool => true | _ => false
  | .str, .inl t => match P.underlying t with | some .string => true | _ => false
  | .sl a, .inl t => match P.underlying t with | some (.slice e) => Nat.beq (P.cellsOf e) a.size && Nat.blt 0 a.size && Nat.beq (P.bytesOf e) a.byt && opB P a (.inl e) | _ => false
  | .st c, .inl t => match P.underlying t with | some (.struct fs) => Nat.beq (P.cellsOf t) c.size && opB P c (.inr (fs.toList, 0)) | _ => false
  | .pr a b, .inr (f :: fs, o) => Nat.beq f.offset o && Nat.beq (P.cellsOf f.type) a.size && opB P a (.inl f.type) && opB P b (.inr (fs, o + a.size))
  | .unit, .inr ([], _) => true
  | _, _ => false

section
variable {H : Type} (enc : TypeId × Value → H) (P : Program) (W : World)
def OpnT (t : TypeId) (a : Ty) : Prop :=
  ∀ fuel cs d ps, DataW.trod enc P W 0 (fun _ => true) true fuel t cs = some (d, ps) → Light P t d → ∃ x : a.den, Rp (phiOf W) a x cs [] ∧ Wf a x ∧ Sz a x ≤ bulk d
def OpnF (size o : Nat) (fs : List Field) (a : Ty) : Prop :=
  ∀ (n : Nat) (cs : List Value) (xs : List (DataW H × List MemPlace)), cs.length = size → xs.length = fs.length →
    (∀ (i : Nat) (f : Field), fs[i]? = some f → DataW.trod enc P W 0 (fun _ => true) true n f.type ((cs.drop f.offset).take (P.cellsOf f.type)) = xs[i]?) →
    (∀ (i : Nat) (f : Field) y, fs[i]? = some f → xs[i]? = some y → Light P f.type y.1) → o + a.size = size → ∃ x : a.den, Rp (phiOf W) a x (cs.drop o) [] ∧ Wf a x ∧ Sz a x ≤ bulkAll (xs.map (·.1))
end
section
variable {H : Type} {enc : TypeId × Value → H} {P : Program} {W : World} {t e : TypeId}
theorem light_slice {es sp : List (DataW H)} (ht : P.underlying t = some (.slice e)) (hl : Light P t (.slice es sp)) : es.length * P.bytesOf e ≤ 140737488351232 ∧ ∀ d ∈ es, Light P e d := by
  unfold Light at hl
  simp only [DataW.weights, ht] at hl
  have h7 : reachBytes = 140737488351232 := by decide
  constructor
  · have h1 := hl _ (List.mem_cons_self ..)
    have h2 : es.length * P.bytesOf e ≤ (es.length + sp.length) * P.bytesOf e := Nat.mul_le_mul_right _ (by omega)
    omega
  · intro d hd x hx
    refine hl x (List.mem_cons_of_mem _ (List.mem_append_left _ ?_))
    clear hl
    induction es with
    | nil => cases hd
    | cons a r ih =>
      simp only [DataW.weightsAll]
      rcases List.mem_cons.1 hd with rfl | h
      · exact List.mem_append_left _ hx
      · exact List.mem_append_right _ (ih h)
theorem light_agg {fs : Array Field} {ds : List (DataW H)} (ht : P.underlying t = some (.struct fs)) (hl : Light P t (.agg ds)) : ∀ (i : Nat) (f : Field) y, fs.toList[i]? = some f → ds[i]? = some y → Light P f.type y := by
  unfold Light at hl
  simp only [DataW.weights, ht] at hl
  have key : ∀ (l : List Field) (ds : List (DataW H)), (∀ x ∈ DataW.weightsEach P (l.map (·.type)) ds, x ≤ reachBytes) → ∀ (i : Nat) (f : Field) y, l[i]? = some f → ds[i]? = some y → Light P f.type y := by
    intro l
    induction l with
    | nil => intro ds _ i f y h; simp at h
    | cons g r ih =>
      intro ds hl i f y hf hy
      cases ds with
      | nil => simp at hy
      | cons d q =>
        simp only [List.map_cons, DataW.weightsEach] at hl
        cases i with
        | zero =>
          simp at hf hy
          subst hf hy
          exact fun x hx => hl x (List.mem_append_left _ hx)
        | succ i => exact ih q (fun x hx => hl x (List.mem_append_right _ hx)) i f y (by simpa using hf) (by simpa using hy)
  exact key fs.toList ds hl
theorem list_choose {α : Type} {p : Nat → α → Prop} : ∀ n, (∀ i, i < n → ∃ x, p i x) → ∃ l : List α, l.length = n ∧ ∀ i x, l[i]? = some x → p i x
  | 0, _ => ⟨[], rfl, fun i x h => by simp at h⟩
  | n + 1, h => by
    obtain ⟨l, h1, h2⟩ := list_choose n (fun i hi => h i (by omega))
    obtain ⟨x, hx⟩ := h n (by omega)
    refine ⟨l ++ [x], by simp [h1], fun i y hy => ?_⟩
    by_cases hi : i < n
    · rw [List.getElem?_append_left (by omega)] at hy; exact h2 i y hy
    · rw [List.getElem?_append_right (by omega)] at hy
      have h3 : i = n := by
        have := (List.getElem?_eq_some_iff.1 hy).1
        simp at this; omega
      subst h3
      rw [h1, Nat.sub_self] at hy
      simp at hy
      subst hy; exact hx
theorem all2_of {α β : Type} {R : α → β → Prop} : ∀ {l : List α} {m : List β}, l.length = m.length → (∀ (i : Nat) x y, l[i]? = some x → m[i]? = some y → R x y) → All2 R l m
  | [], [], _, _ => .nil
  | [], _ :: _, h, _ => by simp at h
  | _ :: _, [], h, _ => by simp at h
  | x :: l, y :: m, h, hR => .cons (hR 0 x y rfl rfl) (all2_of (by simpa using h) fun i a b ha hb => hR (i + 1) a b (by simpa using ha) (by simpa using hb))
/-- cells of a flat list of lists of one length -/
theorem flat_at {s : Nat} (hs : 0 < s) : ∀ (l : List (List Value)), (∀ c ∈ l, c.length = s) → ∀ (j : Nat) (v : Value), l.flatten[j]? = some v → ∃ i k c, j = i * s + k ∧ l[i]? = some c ∧ c[k]? = some v
  | [], _, j, v, h => by simp at h
  | d :: r, hl, j, v, h => by
    have h1 := hl d List.mem_cons_self
    rw [List.flatten_cons] at h
    by_cases hj : j < s
    · rw [List.getElem?_append_left (by omega)] at h
      exact ⟨0, j, d, by omega, rfl, h⟩
    · rw [List.getElem?_append_right (by omega), h1] at h
      obtain ⟨i, k, c, e1, e2, e3⟩ := flat_at hs r (fun c hc => hl c (List.mem_cons_of_mem _ hc)) (j - s) v h
      exact ⟨i + 1, k, c, by rw [Nat.succ_mul]; omega, by simpa using e2, e3⟩

theorem opn_ok : ∀ (a : Ty), (∀ t, opB P a (.inl t) = true → OpnT enc P W t a) ∧ (∀ fs o size, opB P a (.inr (fs, o)) = true → OpnF enc P W size o fs a)
  | .int k => by
    refine ⟨fun t h => ?_, fun fs o size h => by cases fs <;> simp [opB] at h⟩
    · skip
      unfold opB at h
      split at h
      · rename_i k' hu
        have h := of_decide_eq_true h
        subst h
        intro fuel cs d ps ht _
        obtain ⟨n, h1, h2, h3⟩ := DataW.trod_int hu ht
        exact ⟨n, ⟨h1, rfl⟩, by
          have h4 : k.min ≤ n ∧ n ≤ k.max := by simpa [Lit.wf] using h3
          exact ⟨h4, Nat.zero_le _⟩⟩
      · cases h
  | .bool => by
    refine ⟨fun t h => ?_, fun fs o size h => by cases fs <;> simp [opB] at h⟩
    · skip
      unfold opB at h
      split at h
      · rename_i hu
        intro fuel cs d ps ht _
        cases fuel with
        | zero => simp [DataW.trod] at ht
        | succ n =>
          unfold DataW.trod at ht
          rw [hu] at ht
          split at ht <;> simp_all [Rp, Wf, Sz]
      · cases h
  | .str => by
    refine ⟨fun t h => ?_, fun fs o size h => by cases fs <;> simp [opB] at h⟩
    · skip
      unfold opB at h
      split at h
      · rename_i hu
        intro fuel cs d ps ht hl
        obtain ⟨s, h1, h2, h3⟩ := DataW.trod_string hu ht
        injection h2 with h4 h5
        subst h4
        refine ⟨s.data.toList, ⟨by rw [h1], rfl⟩, ?_⟩
        have h6 := hl s.data.toList.length (by simp [DataW.weights])
        have h7 : reachBytes = 140737488351232 := by decide
        refine ⟨?_, Nat.le_refl _⟩
        show s.data.toList.length ≤ _
        omega
      · cases h
  | .unit => ⟨fun t h => by simp [opB] at h, fun fs o size h => by
      cases fs with
      | cons f r => simp [opB] at h
      | nil =>
        intro n cs xs hs _ _ _ hz
        have : o = cs.length := by rw [hs]; exact hz
        exact ⟨(), ⟨List.drop_eq_nil_of_le (by omega), rfl⟩, trivial, Nat.zero_le _⟩⟩
  | .sl a => by
    refine ⟨fun t h => ?_, fun fs o size h => by cases fs <;> simp [opB] at h⟩
    · skip
      unfold opB at h
      split at h
      case h_2 => cases h
      case h_1 e hu =>
      simp only [Bool.and_eq_true] at h
      obtain ⟨⟨⟨h1, h2⟩, h3⟩, h4⟩ := h
      have hn := Nat.eq_of_beq_eq_true h1
      have h0 : 0 < a.size := by simpa [Nat.blt_eq] using h2
      have hb := Nat.eq_of_beq_eq_true h3
      have he := (opn_ok a).1 e h4
      intro fuel cs d ps hd hl
      rcases DataW.trod_slice hu hd with ⟨g1, g2⟩ | ⟨ad, len, cap, elems, rest, m, _, rfl, hx, _, hlc, _, hlen, hel, _, _⟩
      · exact ⟨([] : List a.den), ⟨none, 0, [], g1, Nat.le_refl _, .nil, fun hn => absurd hn (by simp), rfl⟩, by simp [Wf], Nat.zero_le _⟩
      · injection hx with hx1 hx2
        subst hx1
        obtain ⟨hl1, hl2⟩ := light_slice hu hl
        rw [List.length_map, hlen, hb] at hl1
        have each : ∀ i, i < len → ∃ q : a.den × List Value, Rp (phiOf W) a q.1 q.2 [] ∧ Wf a q.1 ∧ (∀ k u, q.2[k]? = some u → W.cell? (ad.add (i * a.size + k)) = some u) ∧ ∀ y, elems[i]? = some y → Sz a q.1 ≤ bulk y.1 := by
          intro i hi
          obtain ⟨y, hy⟩ : ∃ y, elems[i]? = some y := ⟨_, List.getElem?_eq_getElem (by omega)⟩
          have h3 := hel i hi
          rw [hy, hn, Option.bind_eq_some_iff] at h3
          obtain ⟨cs', h4, h5⟩ := h3
          obtain ⟨y1, y2⟩ := y
          obtain ⟨x, h6, h7, h7b⟩ := he m cs' y1 y2 h5 (hl2 y1 (List.mem_map.2 ⟨(y1, y2), List.mem_of_getElem? hy, rfl⟩))
          obtain ⟨_, h8, h9⟩ := World.cells?_some h4
          refine ⟨(x, cs'), h6, h7, fun k u hu => ?_, fun y' hy' => (by rw [hy] at hy'; injection hy' with hy'; rw [← hy']; exact h7b)⟩
          have hk : k < a.size := by rw [← h6.len]; exact (List.getElem?_eq_some_iff.1 hu).1
          have := h9 k hk
          rw [hu, add_add'] at this
          exact this
        obtain ⟨l, h10, h11⟩ := list_choose len each
        have hll : (l.map (·.1)).length = len := by rw [List.length_map, h10]
        have hall : All2 (fun x cs => Rp (phiOf W) a x cs []) (l.map (·.1)) (l.map (·.2)) := all2_of (by simp) fun i x y hx hy => by
          rw [List.getElem?_map] at hx hy
          cases hq : l[i]? with
          | none => rw [hq] at hx; cases hx
          | some q =>
            rw [hq] at hx hy
            simp only [Option.map_some, Option.some.injEq] at hx hy
            subst hx hy
            exact (h11 i q hq).1
        refine ⟨l.map (·.1), ⟨some ad, cap, l.map (·.2), ?_, ?_, hall, fun _ => ⟨ad, rfl, fun j v hv => ?_⟩, rfl⟩, ⟨?_, fun x hx => ?_⟩, ?_⟩
        · show [Value.slice (some ad) len cap] = [Value.slice (some ad) (l.map (·.1)).length cap]
          rw [hll]
        · show (l.map (·.1)).length ≤ cap
          omega
        · obtain ⟨i, k, c, rfl, e2, e3⟩ := flat_at h0 (l.map (·.2)) (fun c hc => by
            obtain ⟨q, hq, rfl⟩ := List.mem_map.1 hc
            obtain ⟨i, hi⟩ := List.getElem?_of_mem hq
            exact (h11 i q hi).1.len) j v hv
          rw [List.getElem?_map] at e2
          cases hq : l[i]? with
          | none => rw [hq] at e2; cases e2
          | some q =>
            rw [hq] at e2
            simp only [Option.map_some, Option.some.injEq] at e2
            subst e2
            exact (h11 i q hq).2.2.1 k v e3
        · show (l.map (·.1)).length * a.byt ≤ _
          rw [hll]; exact hl1
        · obtain ⟨q, hq, rfl⟩ := List.mem_map.1 hx
          obtain ⟨i, hi⟩ := List.getElem?_of_mem hq
          exact (h11 i q hi).2.1
        · show ((l.map (·.1)).map (Sz a)).sum + (l.map (·.1)).length ≤ bulkAll (elems.map (·.1)) + (elems.map (·.1)).length
          rw [bulkAll_map, hll, List.length_map, hlen]
          refine Nat.add_le_add_right (sum_le2 (by rw [hll, List.length_map, hlen]) fun i x y hx hy => ?_) _
          rw [List.getElem?_map] at hx hy
          cases hq : l[i]? with
          | none => rw [hq] at hx; cases hx
          | some q =>
            cases he2 : elems[i]? with
            | none => rw [he2] at hy; cases hy
            | some z =>
              rw [hq] at hx
              rw [he2] at hy
              simp only [Option.map_some, Option.some.injEq] at hx hy
              subst hx hy
              exact (h11 i q hq).2.2.2 z he2
  | .st c => by
    refine ⟨fun t h => ?_, fun fs o size h => by cases fs <;> simp [opB] at h⟩
    · skip
      unfold opB at h
      split at h
      case h_2 => cases h
      case h_1 fs hu =>
      simp only [Bool.and_eq_true] at h
      have hs := Nat.eq_of_beq_eq_true h.1
      have hF := (opn_ok c).2 fs.toList 0 c.size h.2
      intro fuel cs d ps hd hl
      obtain ⟨xs, n, _, hx, hcl, hxl, hf⟩ := DataW.trod_struct hu hd
      injection hx with hx1 hx2
      subst hx1
      have hla := light_agg hu hl
      obtain ⟨x, h1, h2, h3⟩ := hF n cs xs (by rw [hcl, hs]) (by simpa using hxl) (fun i f hi => hf i f (by simpa using hi)) (fun i f y hi hy => hla i f y.1 hi (by simp [hy])) (by simp)
      have h1 : Rp (phiOf W) c x cs [] := by simpa using h1
      exact ⟨x, h1, h2, h3⟩
  | .pr a b => ⟨fun t h => by simp [opB] at h, fun fs o size h => by
      cases fs with
      | nil => simp [opB] at h
      | cons f fs =>
        unfold opB at h
        simp only [Bool.and_eq_true] at h
        obtain ⟨⟨⟨h1, h2⟩, h3⟩, h4⟩ := h
        have ho := Nat.eq_of_beq_eq_true h1
        have hm := Nat.eq_of_beq_eq_true h2
        have ha := (opn_ok a).1 _ h3
        have hb := (opn_ok b).2 fs (o + a.size) size h4
        intro n cs xs hs hxl hx hl hz
        cases xs with
        | nil => simp at hxl
        | cons y ys =>
          have h3 := hx 0 f rfl
          rw [ho, hm] at h3
          obtain ⟨y1, y2⟩ := y
          obtain ⟨x, g1, g2, g2b⟩ := ha n _ y1 y2 h3 (hl 0 f (y1, y2) rfl rfl)
          obtain ⟨z, g3, g4, g4b⟩ := hb n cs ys hs (by simpa using hxl) (fun i g hg => by simpa using hx (i + 1) g (by simpa using hg)) (fun i g y hg hy => hl (i + 1) g y (by simpa using hg) (by simpa using hy)) (by rw [← hz]; simp [Ty.size]; omega)
          refine ⟨(x, z), ⟨_, _, [], [], ?_, rfl, g1, g3⟩, ⟨g2, g4⟩, Nat.add_le_add g2b g4b⟩
          rw [← List.drop_drop, List.take_append_drop]⟩
  | .it => ⟨fun t h => by simp [opB] at h, fun fs o size h => by cases fs <;> simp [opB] at h⟩
  | .itd => ⟨fun t h => by simp [opB] at h, fun fs o size h => by cases fs <;> simp [opB] at h⟩
  | .dead _ _ => ⟨fun t h => by simp [opB] at h, fun fs o size h => by cases fs <;> simp [opB] at h⟩
  | .rw _ _ => ⟨fun t h => by simp [opB] at h, fun fs o size h => by cases fs <;> simp [opB] at h⟩
  | .mr _ _ => ⟨fun t h => by simp [opB] at h, fun fs o size h => by cases fs <;> simp [opB] at h⟩
  | .ptr _ => ⟨fun t h => by simp [opB] at h, fun fs o size h => by cases fs <;> simp [opB] at h⟩
  | .eb _ _ => ⟨fun t h => by simp [opB] at h, fun fs o size h => by cases fs <;> simp [opB] at h⟩
  | .op _ => ⟨fun t h => by simp [opB] at h, fun fs o size h => by cases fs <;> simp [opB] at h⟩
  | .bx _ _ => ⟨fun t h => by simp [opB] at h, fun fs o size h => by cases fs <;> simp [opB] at h⟩
  | .on _ => ⟨fun t h => by simp [opB] at h, fun fs o size h => by cases fs <;> simp [opB] at h⟩

theorem light_arg {ts : List TypeId} {ds : List (DataW H)} {j : Nat} {t : TypeId} {d : DataW H} (hz : (DataW.weightsEach P ts ds).all (· ≤ reachBytes) = true) (ht : ts[j]? = some t) (hd : ds[j]? = some d) : Light P t d := by
  intro x hx
  have h1 : ∀ y ∈ DataW.weightsEach P ts ds, y ≤ reachBytes := fun y hy => by simpa using List.all_eq_true.1 hz y hy
  clear hz
  induction ts generalizing ds j with
  | nil => simp at ht
  | cons a r ih =>
    cases ds with
    | nil => simp at hd
    | cons b q =>
      simp only [DataW.weightsEach] at h1
      cases j with
      | zero =>
        simp at ht hd
        subst ht hd
        exact h1 x (List.mem_append_left _ hx)
      | succ j => exact ih (by simpa using ht) (by simpa using hd) (fun y hy => h1 y (List.mem_append_right _ hy))
/-- an argument, opened -/
theorem open_argB {a : Ty} {v : Value} {d : DataW H} {ps : List MemPlace} {base : Nat} (ha : opB P a (.inl t) = true) (hv : Value.okWide P W .any base t v) (h : DataW.Trod enc P W 0 (fun _ => true) true t v d ps) (hl : Light P t d) :
    ∃ (x : a.den) (cs : List Value), a.top = true ∧ v = sv a cs ∧ Rp (phiOf W) a x cs [] ∧ Wf a x ∧ Sz a x ≤ bulk d := by
  obtain ⟨fuel, hf⟩ := h
  obtain ⟨x, h1, h2, h2b⟩ := (opn_ok (enc := enc) (W := W) a).1 t ha fuel _ d ps hf hl
  refine ⟨x, v.cells.toList, ?_, ?_, h1, h2, h2b⟩
  · cases a <;> first | rfl | (simp [opB] at ha; done)
  · cases a <;> first | (simp [opB] at ha; done) | skip
    all_goals unfold opB at ha
    all_goals split at ha <;> first | (cases ha; done) | skip
    all_goals rename_i hu
    · obtain ⟨n, rfl⟩ := okWide_int hu hv; rfl
    · obtain ⟨n, rfl⟩ := okWide_bool hu hv; rfl
    · obtain ⟨n, rfl⟩ := okWide_string hu hv; rfl
    · obtain ⟨A, n, c, rfl⟩ := okWide_slice hu hv; rfl
    · obtain ⟨cs, rfl, _⟩ := okWide_struct hu hv; rfl
theorem open_arg {a : Ty} {v : Value} {d : DataW H} {ps : List MemPlace} {base : Nat} (ha : opB P a (.inl t) = true) (hv : Value.okWide P W .any base t v) (h : DataW.Trod enc P W 0 (fun _ => true) true t v d ps) (hl : Light P t d) :
    ∃ (x : a.den) (cs : List Value), a.top = true ∧ v = sv a cs ∧ Rp (phiOf W) a x cs [] ∧ Wf a x :=
  let ⟨x, cs, h1, h2, h3, h4, _⟩ := open_argB ha hv h hl
  ⟨x, cs, h1, h2, h3, h4⟩
end
end Go.Lf
/-
  Loops over lists, plainly.
-/
namespace Go.Lf
open Go

theorem wrap64 {x : Int} (h0 : -9223372036854775808 ≤ x) (h1 : x ≤ 9223372036854775807) : IntKind.wrap .i64 x = x := by
  simp only [IntKind.wrap]
  simp [IntKind.bits, IntKind.signed]
  omega
theorem wrapS {n : Nat} (h : n < 9223372036854775807) : IntKind.wrap .i64 ((n : Int) + 1) = ((n + 1 : Nat) : Int) := by
  rw [wrap64 (by omega) (by omega)]; omega
theorem idx_nat {α : Type} (l : List α) (i : Nat) : idx l (i : Int) = l[i]? := by
  unfold idx
  rw [if_pos (by omega)]; rfl
theorem sub_nat {α : Type} {l : List α} {a b : Nat} (h : a ≤ b) (hb : b ≤ l.length) : sub l (a : Int) (b : Int) = some ((l.drop a).take (b - a)) := by
  unfold sub
  rw [if_pos (by omega)]; rfl
theorem app_of {α : Type} {b : Nat} {l m : List α} (h : (l.length + m.length) * b ≤ 140737488355328) : app b l m = some (l ++ m) := if_pos h
theorem cat_of {l m : List UInt8} (h : l.length + m.length ≤ 9223372036854775807) : cat l m = some (l ++ m) := if_pos h
section
variable {α σ κ : Type}
/-- a list, one by one -/
def foldE (step : α → σ → Option (σ ⊕ κ)) (fin : σ → κ) : List α → σ → Option κ
  | [], s => some (fin s)
  | x :: r, s => (step x s).bind fun d => onSum d (foldE step fin r) some
theorem range_loop {l : List α} {B : Int × σ → Option ((Int × σ) ⊕ κ)} (step : α → σ → Option (σ ⊕ κ)) (fin : σ → κ)
    (h1 : ∀ (i : Nat) x s, l[i]? = some x → B ((i : Int), s) = (step x s).map fun d => onSum d (fun s' => .inl (((i + 1 : Nat) : Int), s')) .inr) (h2 : ∀ s, B ((l.length : Int), s) = some (.inr (fin s))) :
    ∀ (m i : Nat) (s : σ), i + m = l.length → loopC B ((i : Int), s) = foldE step fin (l.drop i) s
  | 0, i, s, h => by
    have : i = l.length := by omega
    subst this
    rw [loopC_step, h2, List.drop_length]
    rfl
  | m + 1, i, s, h => by
    have hlt : i < l.length := by omega
    rw [loopC_step, h1 i l[i] s (List.getElem?_eq_getElem hlt), List.drop_eq_getElem_cons hlt]
    unfold foldE
    cases step l[i] s with
    | none => rfl
    | some d =>
      cases d with
      | inl s' => exact range_loop step fin h1 h2 m (i + 1) s' (by omega)
      | inr k => rfl
/-- a list, one by one, with the elements' numbers -/
def foldI (step : Nat → α → σ → Option (σ ⊕ κ)) (fin : σ → κ) : Nat → List α → σ → Option κ
  | _, [], s => some (fin s)
  | i, x :: r, s => (step i x s).bind fun d => onSum d (foldI step fin (i + 1) r) some
theorem range_loopI {l : List α} {B : Int × σ → Option ((Int × σ) ⊕ κ)} (step : Nat → α → σ → Option (σ ⊕ κ)) (fin : σ → κ)
    (h1 : ∀ (i : Nat) x s, l[i]? = some x → B ((i : Int), s) = (step i x s).map fun d => onSum d (fun s' => .inl (((i + 1 : Nat) : Int), s')) .inr) (h2 : ∀ s, B ((l.length : Int), s) = some (.inr (fin s))) :
    ∀ (m i : Nat) (s : σ), i + m = l.length → loopC B ((i : Int), s) = foldI step fin i (l.drop i) s
  | 0, i, s, h => by
    have : i = l.length := by omega
    subst this
    rw [loopC_step, h2, List.drop_length]
    rfl
  | m + 1, i, s, h => by
    have hlt : i < l.length := by omega
    rw [loopC_step, h1 i l[i] s (List.getElem?_eq_getElem hlt), List.drop_eq_getElem_cons hlt]
    unfold foldI
    cases step i l[i] s with
    | none => rfl
    | some d =>
      cases d with
      | inl s' => exact range_loopI step fin h1 h2 m (i + 1) s' (by omega)
      | inr k => rfl
theorem range_loopI0 {l : List α} {B : Int → Option (Int ⊕ κ)} (step : Nat → α → Option (Unit ⊕ κ)) (fin : κ)
    (h1 : ∀ (i : Nat) x, l[i]? = some x → B (i : Int) = (step i x).map fun d => onSum d (fun _ => .inl ((i + 1 : Nat) : Int)) .inr) (h2 : B (l.length : Int) = some (.inr fin)) :
    ∀ (m i : Nat), i + m = l.length → loopC B (i : Int) = foldI (fun i x (_ : Unit) => step i x) (fun _ => fin) i (l.drop i) ()
  | 0, i, h => by
    have : i = l.length := by omega
    subst this
    rw [loopC_step, h2, List.drop_length]
    rfl
  | m + 1, i, h => by
    have hlt : i < l.length := by omega
    rw [loopC_step, h1 i l[i] (List.getElem?_eq_getElem hlt), List.drop_eq_getElem_cons hlt]
    unfold foldI
    cases step i l[i] with
    | none => rfl
    | some d =>
      cases d with
      | inl s' => exact range_loopI0 step fin h1 h2 m (i + 1) (by omega)
      | inr k => rfl
/-- the same of a loop whose state is the number alone -/
theorem range_loop0 {l : List α} {B : Int → Option (Int ⊕ κ)} (step : α → Option (Unit ⊕ κ)) (fin : κ)
    (h1 : ∀ (i : Nat) x, l[i]? = some x → B (i : Int) = (step x).map fun d => onSum d (fun _ => .inl ((i + 1 : Nat) : Int)) .inr) (h2 : B (l.length : Int) = some (.inr fin)) :
    ∀ (m i : Nat), i + m = l.length → loopC B (i : Int) = foldE (fun x (_ : Unit) => step x) (fun _ => fin) (l.drop i) ()
  | 0, i, h => by
    have : i = l.length := by omega
    subst this
    rw [loopC_step, h2, List.drop_length]
    rfl
  | m + 1, i, h => by
    have hlt : i < l.length := by omega
    rw [loopC_step, h1 i l[i] (List.getElem?_eq_getElem hlt), List.drop_eq_getElem_cons hlt]
    unfold foldE
    cases step l[i] with
    | none => rfl
    | some d =>
      cases d with
      | inl s' => exact range_loop0 step fin h1 h2 m (i + 1) (by omega)
      | inr k => rfl
end
end Go.Lf
/- Chapter 6, plainly, at this seat. -/
namespace Go.Fn
open Go Go.Lf

/-- a word as a number -/
def num (x : BitVec 64) : Int := IntKind.i64.wrap (x.toNat : Int)
theorem num_inj (x : BitVec 64) : BitVec.ofInt 64 (num x) = x := by
  apply BitVec.eq_of_toNat_eq
  have h := x.isLt
  simp only [num, IntKind.wrap, BitVec.toNat_ofInt]
  simp [IntKind.bits, IntKind.signed]
  omega
theorem num_of {n : Int} (h : IntKind.i64.min ≤ n ∧ n ≤ IntKind.i64.max) : num (BitVec.ofInt 64 n) = n := by
  have e1 : IntKind.i64.min = -9223372036854775808 := by decide
  have e2 : IntKind.i64.max = 9223372036854775807 := by decide
  simp only [num, IntKind.wrap, BitVec.toNat_ofInt]
  simp [IntKind.bits, IntKind.signed]
  omega
theorem bits_or (a b : Int) : Go.Lf.bits .or .i64 a b = num (BitVec.ofInt 64 a ||| BitVec.ofInt 64 b) := rfl
theorem bits_and (a b : Int) : Go.Lf.bits .and .i64 a b = num (BitVec.ofInt 64 a &&& BitVec.ofInt 64 b) := rfl
theorem bits_andNot (a b : Int) : Go.Lf.bits .andNot .i64 a b = num (BitVec.ofInt 64 a &&& ~~~ BitVec.ofInt 64 b) := rfl

abbrev Chg := Int × Int × Int × Unit
abbrev Lok := Int × Int × Unit
def thenS (a b : Chg) : Chg := (num ((BitVec.ofInt 64 a.1 &&& ~~~ BitVec.ofInt 64 b.2.1) ||| BitVec.ofInt 64 b.1), num ((BitVec.ofInt 64 a.2.1 &&& ~~~ BitVec.ofInt 64 b.1) ||| BitVec.ofInt 64 b.2.1), if b.2.2.1 = -1 then a.2.2.1 else b.2.2.1, ())
def applyS (l : Lok) (c : Chg) : Lok := (num ((BitVec.ofInt 64 l.1 ||| BitVec.ofInt 64 c.1) &&& ~~~ BitVec.ofInt 64 c.2.1), if c.2.2.1 = -1 then l.2.1 else c.2.2.1, ())
def Fits (n : Int) : Prop := IntKind.i64.min ≤ n ∧ n ≤ IntKind.i64.max
theorem bv_assoc (a b c d e f : BitVec 64) (h : (d &&& c) = 0#64) : ((a &&& ~~~d ||| c) &&& ~~~f ||| e) = (a &&& ~~~(d &&& ~~~e ||| f) ||| (c &&& ~~~f ||| e)) := by
  apply BitVec.eq_of_getLsbD_eq
  intro i hi
  have hi2 := congrArg (fun x : BitVec 64 => x.getLsbD i) h
  simp only [BitVec.getLsbD_or, BitVec.getLsbD_and, BitVec.getLsbD_not, hi, decide_true, Bool.true_and, BitVec.getLsbD_zero] at hi2 ⊢
  generalize a.getLsbD i = a at *
  generalize c.getLsbD i = c at *
  generalize d.getLsbD i = d at *
  generalize e.getLsbD i = e at *
  generalize f.getLsbD i = f at *
  revert hi2
  cases a <;> cases c <;> cases d <;> cases e <;> cases f <;> decide
theorem bv_apply (l a b c d : BitVec 64) : (((l ||| a) &&& ~~~b ||| c) &&& ~~~d) = ((l ||| (a &&& ~~~d ||| c)) &&& ~~~(b &&& ~~~c ||| d)) := by
  apply BitVec.eq_of_getLsbD_eq
  intro i hi
  simp only [BitVec.getLsbD_or, BitVec.getLsbD_and, BitVec.getLsbD_not, hi, decide_true, Bool.true_and]
  generalize l.getLsbD i = l
  generalize a.getLsbD i = a
  generalize b.getLsbD i = b
  generalize c.getLsbD i = c
  generalize d.getLsbD i = d
  cases l <;> cases a <;> cases b <;> cases c <;> cases d <;> decide
theorem and_ones (x : BitVec 64) : x &&& 18446744073709551615#64 = x := by
  rw [show 18446744073709551615#64 = BitVec.allOnes 64 by decide]
  exact BitVec.and_allOnes
theorem num_zero (x : BitVec 64) : num x = 0 ↔ x = 0#64 := by
  constructor
  · intro h
    have := num_inj x
    rw [h] at this
    rw [← this]; decide
  · rintro rfl; decide
end Go.Fn

namespace Go.Fn
open Go Go.Lf

abbrev Bs := List UInt8
def low (b : UInt8) : Bool := decide (97 ≤ b.toNat) && decide (b.toNat ≤ 122)
def okName (s : Bs) : Bool := decide (1 ≤ s.length) && decide (s.length ≤ 12) && s.all low
def lowStep (b : UInt8) : Option (Unit ⊕ (Unit ⊕ Bool)) := if low b then some (.inl ()) else some (.inr (.inr false))
theorem low_fold : ∀ s : Bs, foldE (fun x (_ : Unit) => lowStep x) (fun _ => (.inl () : Unit ⊕ Bool)) s () = some (if s.all low then .inl () else .inr false)
  | [] => rfl
  | b :: r => by
    unfold foldE
    have ih := low_fold r
    unfold lowStep
    cases hb : low b with
    | true => simp only [if_true, Option.bind_some, onSum, List.all_cons, hb, Bool.true_and]; exact ih
    | false => simp [onSum, List.all_cons, hb]
theorem low_loop (s : Bs) (hs : s.length < 9223372036854775807) (B : Int → Option (Int ⊕ (Unit ⊕ Bool)))
    (hB : ∀ z1, B z1 = (bif (decide (z1 < (((List.length s) : Nat) : Int))) then (((Go.Lf.idx s z1)).bind fun r2 =>
       bif (!(decide ((((UInt8.toNat r2) : Nat) : Int) < (97 : Int)))) then ((Go.Lf.idx s z1)).bind fun r3 =>
       some (decide ((122 : Int) < (((UInt8.toNat r3) : Nat) : Int)))
       else some true).bind fun r4 =>
     bif r4 then some (.inr (.inr false))
     else some (.inl (Go.IntKind.wrap .i64 (z1 + (1 : Int))))
     else some (.inr (.inl ())))) : loopC B 0 = some (if s.all low then .inl () else .inr false) := by
  have := range_loop0 (l := s) (B := B) lowStep (.inl ()) (fun i x hx => by
    have hlt : i < s.length := (List.getElem?_eq_some_iff.1 hx).1
    rw [hB, idx_nat, hx, wrapS (by omega)]
    unfold lowStep low
    have e0 : ((i : Int) < (s.length : Int)) := by omega
    by_cases h1 : (x.toNat : Int) < 97
    · have h3 : ¬ (97 ≤ x.toNat) := by omega
      simp [e0, hlt, h1, h3, onSum]
    · have h3 : 97 ≤ x.toNat := by omega
      by_cases h2 : (122 : Int) < x.toNat
      · have h4 : ¬ (x.toNat ≤ 122) := by omega
        simp [e0, hlt, h1, h2, h3, h4, onSum]
      · have h4 : x.toNat ≤ 122 := by omega
        simp [e0, hlt, h1, h2, h3, h4, onSum]) (by rw [hB]; simp) s.length 0 (by omega)
  rw [List.drop_zero, low_fold] at this
  exact this
theorem named_eq (s : Bs) (hs : s.length < 9223372036854775807) : style_named s = some (okName s) := by
  unfold style_named okName
  by_cases h1 : (s.length : Int) < 1
  · have : ¬ (1 ≤ s.length) := by omega
    simp [h1, this]
  · have h3 : 1 ≤ s.length := by omega
    by_cases h2 : (12 : Int) < s.length
    · have : ¬ (s.length ≤ 12) := by omega
      simp [h1, h2, this]
    · have h4 : s.length ≤ 12 := by omega
      rw [low_loop s hs _ (fun _ => rfl)]
      cases h5 : s.all low <;> simp [h1, h2, h3, h4, onSum]
theorem rname_eq (s : Bs) (hs : s.length < 9223372036854775807) : folioref06_Name s = some (okName s) := by
  unfold folioref06_Name okName
  rw [low_loop s hs _ (fun _ => rfl)]
  by_cases h1 : (1 : Int) ≤ s.length
  · have h3 : 1 ≤ s.length := by omega
    by_cases h2 : (s.length : Int) ≤ 12
    · have h4 : s.length ≤ 12 := by omega
      cases h5 : s.all low <;> simp [h1, h2, h3, h4, onSum]
    · have h4 : ¬ s.length ≤ 12 := by omega
      cases h5 : s.all low <;> simp [h1, h2, h3, h4, onSum]
  · have h3 : ¬ 1 ≤ s.length := by omega
    cases h5 : s.all low <;> simp [h1, h3, onSum]
end Go.Fn

namespace Go.Fn
open Go Go.Lf

def isCol (w : Bs) (n : Nat) : Bool := decide (Lib.itoa (n : Int) = w)
def colS (w : Bs) : Option Nat := (List.range 16).find? (isCol w)
theorem itoa_back : ∀ n : Nat, n < 16 → Lib.atoiAll (Lib.itoa (n : Int)) = .ok (n : Int) := by
  have h : ((List.range 16).all fun n => match Lib.atoiAll (Lib.itoa (n : Int)) with | .ok v => decide (v = (n : Int)) | _ => false) = true := by kernel_rfl
  intro n hn
  have h1 := List.all_eq_true.1 h n (List.mem_range.2 hn)
  split at h1
  · rename_i v hv
    rw [hv, of_decide_eq_true h1]
  · cases h1
theorem colS_some {w : Bs} {n : Nat} (h : colS w = some n) : n < 16 ∧ Lib.itoa (n : Int) = w :=
  ⟨List.mem_range.1 (List.mem_of_find?_eq_some h), of_decide_eq_true (show decide (Lib.itoa (n : Int) = w) = true from List.find?_some (p := isCol w) h)⟩
theorem colS_of {w : Bs} {n : Nat} (hn : n < 16) (h : Lib.itoa (n : Int) = w) : colS w = some n := by
  cases hc : colS w with
  | none =>
    have := List.find?_eq_none.1 hc n (List.mem_range.2 hn)
    exact absurd (decide_eq_true h) this
  | some m =>
    obtain ⟨h1, h2⟩ := colS_some hc
    have e1 := itoa_back n hn
    have e2 := itoa_back m h1
    rw [h] at e1
    rw [h2, e1] at e2
    injection e2 with e2
    congr 1
    omega
theorem rcolor_eq (w : Bs) : folioref06_color w = some (match colS w with | some n => ((n : Int), true) | none => (0, false)) := by
  unfold folioref06_color
  have h := range_loop0 (l := List.range 16) (κ := Unit ⊕ (Int × Bool)) (B := fun z1 => bif (decide (z1 ≤ (15 : Int))) then ((Go.Fn.strconv_Itoa z1)).bind fun r2 =>
     bif (decide ((r2 : List (UInt8)) = w)) then some (.inr (.inr (z1, true)))
     else some (.inl (Go.IntKind.wrap .i64 (z1 + (1 : Int))))
     else some (.inr (.inl ()))) (fun n => if isCol w n then some (.inr (.inr ((n : Int), true))) else some (.inl ())) (.inl ()) (fun i x hx => by
      have hlt : i < 16 := by simpa using (List.getElem?_eq_some_iff.1 hx).1
      have hxi : x = i := by
        have := (List.getElem?_eq_some_iff.1 hx).2
        simpa using this.symm
      subst hxi
      have e1 : (x : Int) ≤ 15 := by omega
      have e2 : -9223372036854775808 ≤ (x : Int) ∧ (x : Int) ≤ 9223372036854775807 := by omega
      unfold isCol strconv_Itoa
      by_cases hw : Lib.itoa (x : Int) = w
      · simp [e1, e2, hw, onSum]
      · simp [e1, e2, hw, onSum]
        rw [wrapS (by omega)]; rfl) (by simp) 16 0 (by simp)
  rw [List.drop_zero] at h
  have key : ∀ l : List Nat, foldE (fun n (_ : Unit) => if isCol w n then some (.inr (.inr ((n : Int), true))) else some (.inl ())) (fun _ => (.inl () : Unit ⊕ (Int × Bool))) l () = some (match l.find? (isCol w) with | some n => .inr ((n : Int), true) | none => .inl ()) := fun l => by
    induction l with
    | nil => rfl
    | cons x r ih =>
      unfold foldE
      cases hx : isCol w x with
      | true => simp [onSum, List.find?_cons, hx]
      | false =>
        simp only [hx, Bool.false_eq_true, if_false, Option.bind_some, onSum, List.find?_cons]
        exact ih
  rw [key] at h
  have h : loopC _ (0 : Int) = _ := h
  rw [h]
  unfold colS
  cases (List.range 16).find? (isCol w) <;> rfl
theorem scolor_nil : style_color [] = some (0, false) := by unfold style_color; simp
theorem scolor_eq (w : Bs) (r : List Bs) (hw : w.length ≤ 140737488355328) : ∃ n, style_color (w :: r) = some (n, (colS w).isSome) ∧ ∀ m, colS w = some m → n = (m : Int) := by
  unfold style_color strconv_Atoi
  have e0 : (((w :: r).length : Int) = 0) = False := by simp; omega
  have hi : idx (w :: r) 0 = some w := rfl
  simp only [e0, decide_false, cond_false, hi, Option.bind_some, if_pos hw]
  cases h : Lib.atoiAll w with
  | ok v =>
    refine ⟨v, ?_, fun m hm => ?_⟩
    · simp only [Option.isNone_none, cond_true]
      by_cases h1 : 0 ≤ v
      · by_cases h2 : v ≤ 15
        · have e2 : -9223372036854775808 ≤ v ∧ v ≤ 9223372036854775807 := by omega
          simp only [h1, h2, decide_true, cond_true, strconv_Itoa, if_pos e2, Option.bind_some]
          congr 2
          by_cases h3 : Lib.itoa v = w
          · have : colS w = some v.toNat := colS_of (by omega) (by rw [Int.toNat_of_nonneg h1]; exact h3)
            simp [h3, this]
          · cases hc : colS w with
            | none => simp [h3]
            | some m =>
              obtain ⟨g1, g2⟩ := colS_some hc
              have := itoa_back m g1
              rw [g2, h] at this
              injection this with this
              rw [← this] at g2
              exact absurd g2 h3
        · cases hc : colS w with
          | none => simp [h1, h2]
          | some m =>
            obtain ⟨g1, g2⟩ := colS_some hc
            have := itoa_back m g1
            rw [g2, h] at this
            injection this with this
            omega
      · cases hc : colS w with
        | none => simp [h1]
        | some m =>
          obtain ⟨g1, g2⟩ := colS_some hc
          have := itoa_back m g1
          rw [g2, h] at this
          injection this with this
          omega
    · obtain ⟨g1, g2⟩ := colS_some hm
      have := itoa_back m g1
      rw [g2, h] at this
      injection this
  | range =>
    have hn : colS w = none := by
      cases hc : colS w with
      | none => rfl
      | some m =>
        obtain ⟨g1, g2⟩ := colS_some hc
        have := itoa_back m g1
        rw [g2, h] at this
        cases this
    exact ⟨Lib.atoiSat w, by simp [hn], fun m hm => by rw [hn] at hm; cases hm⟩
  | _ =>
    have hn : colS w = none := by
      cases hc : colS w with
      | none => rfl
      | some m =>
        obtain ⟨g1, g2⟩ := colS_some hc
        have := itoa_back m g1
        rw [g2, h] at this
        cases this
    exact ⟨0, by simp [hn], fun m hm => by rw [hn] at hm; cases hm⟩
end Go.Fn

namespace Go.Fn
open Go Go.Lf

abbrev Sty := Bs × Bs × Chg × Unit
def W7 : List Bs := [[98, 111, 108, 100], [105, 116, 97, 108, 105, 99], [117, 110, 100, 101, 114], [115, 116, 114, 105, 107, 101], [109, 111, 110, 111], [115, 109, 97, 108, 108], [114, 101, 118, 101, 114, 115, 101]]
def at7 : Nat → List Bs → Bs → Option Nat
  | _, [], _ => none
  | i, x :: r, a => if x = a then some i else at7 (i + 1) r a
theorem words_eq : style_words = some W7 := by kernel_rfl
theorem rwords_eq : folioref06_Words = some W7 := by kernel_rfl
theorem lt7 {p : Nat → Prop} (h0 : p 0) (h1 : p 1) (h2 : p 2) (h3 : p 3) (h4 : p 4) (h5 : p 5) (h6 : p 6) : ∀ i, i < 7 → p i
  | 0, _ => h0 | 1, _ => h1 | 2, _ => h2 | 3, _ => h3 | 4, _ => h4 | 5, _ => h5 | 6, _ => h6
  | n + 7, h => absurd h (by omega)
theorem at7_lt : ∀ (l : List Bs) (k : Nat) (a : Bs) (i : Nat), at7 k l a = some i → k ≤ i ∧ i < k + l.length
  | [], k, a, i, h => by cases h
  | x :: r, k, a, i, h => by
    unfold at7 at h
    split at h
    · injection h with h; subst h; simp
    · have := at7_lt r (k + 1) a i h
      simp only [List.length_cons]
      omega
theorem shl_at : ∀ i : Nat, i < 7 → nn (i : Int) (IntKind.wrap .i64 ((1 : Int) * ((2 : Int) ^ (min (Int.toNat (i : Int)) (64 : Nat))))) = some (2 ^ i : Int) := lt7 (by decide) (by decide) (by decide) (by decide) (by decide) (by decide) (by decide)
theorem rshl_at : ∀ i : Nat, i < 7 → nn (IntKind.wrap .u64 (i : Int)) (IntKind.wrap .i64 ((1 : Int) * ((2 : Int) ^ (min (Int.toNat (IntKind.wrap .u64 (i : Int))) (64 : Nat))))) = some (2 ^ i : Int) := lt7 (by decide) (by decide) (by decide) (by decide) (by decide) (by decide) (by decide)
theorem num_val (X : BitVec 64) : num X = if X.toNat < 9223372036854775808 then (X.toNat : Int) else (X.toNat : Int) - 18446744073709551616 := by
  have h := X.isLt
  simp only [num, IntKind.wrap]
  simp [IntKind.bits, IntKind.signed]
  split <;> split <;> omega
theorem and_one (n : Int) : (Go.Lf.bits .and .i64 n 1 = 1) ↔ n % 2 = 1 := by
  rw [bits_and, show BitVec.ofInt 64 1 = 1#64 by decide]
  have h1 : (BitVec.ofInt 64 n &&& 1#64).toNat = (BitVec.ofInt 64 n).toNat % 2 := by
    rw [BitVec.toNat_and]; exact Nat.and_one_is_mod _
  have h2 : ((BitVec.ofInt 64 n).toNat : Int) = n % 18446744073709551616 := by simp [BitVec.toNat_ofInt]; omega
  rw [num_val, h1]
  split <;> omega
theorem bit_at (X : BitVec 64) : ∀ i : Nat, i < 7 → (Go.Lf.bits .and .i64 (Int.fdiv (num X) ((2 : Int) ^ (min (Int.toNat (i : Int)) (64 : Nat)))) 1 = 1 ↔ X.getLsbD i = true) := by
  have h := X.isLt
  have hv := num_val X
  have key : ∀ (i : Nat) (m : Nat), (2 : Int) ^ (min (Int.toNat (i : Int)) (64 : Nat)) = (m : Int) → 2 ^ i = m → 0 < m → 18446744073709551616 % (2 * m) = 0 → (Go.Lf.bits .and .i64 (Int.fdiv (num X) ((2 : Int) ^ (min (Int.toNat (i : Int)) (64 : Nat)))) 1 = 1 ↔ X.getLsbD i = true) := fun i m h1 h2 h3 h4 => by
    rw [and_one, h1, Int.fdiv_eq_ediv_of_nonneg _ (by omega)]
    have h5 : (X.getLsbD i = true) ↔ X.toNat / m % 2 = 1 := by
      rw [← BitVec.testBit_toNat, Nat.testBit_eq_decide_div_mod_eq, h2]
      simp
    rw [h5, hv]
    obtain ⟨q, hq⟩ := Nat.dvd_of_mod_eq_zero h4
    split
    · have : ((X.toNat : Int) / (m : Int)) = ((X.toNat / m : Nat) : Int) := (Int.natCast_ediv X.toNat m).symm
      rw [this]; omega
    · have e1 : (X.toNat : Int) - 18446744073709551616 = (X.toNat : Int) + (m : Int) * (-(2 * (q : Int))) := by
        have h7 : (m : Int) * (q : Int) = ((m * q : Nat) : Int) := (Int.natCast_mul m q).symm
        have h8 : 18446744073709551616 = 2 * (m * q) := by rw [← Nat.mul_assoc]; exact hq
        have h9 : (m : Int) * (-(2 * (q : Int))) = -(2 * ((m * q : Nat) : Int)) := by rw [Int.mul_neg, Int.mul_left_comm, h7]
        rw [h9]
        generalize m * q = p at h8
        omega
      rw [e1, Int.add_mul_ediv_left _ _ (by omega)]
      have : ((X.toNat : Int) / (m : Int)) = ((X.toNat / m : Nat) : Int) := (Int.natCast_ediv X.toNat m).symm
      rw [this]
      generalize X.toNat / m = y
      omega
  exact lt7 (key 0 1 (by decide) rfl (by decide) (by decide)) (key 1 2 (by decide) rfl (by decide) (by decide)) (key 2 4 (by decide) rfl (by decide) (by decide)) (key 3 8 (by decide) rfl (by decide) (by decide)) (key 4 16 (by decide) rfl (by decide) (by decide)) (key 5 32 (by decide) rfl (by decide) (by decide)) (key 6 64 (by decide) rfl (by decide) (by decide))
theorem and_pow (X : BitVec 64) : ∀ i : Nat, i < 7 → (Go.Lf.bits .and .i64 (num X) (2 ^ i : Int) = 0 ↔ X.getLsbD i = false) := by
  have key : ∀ (i : Nat), i < 64 → BitVec.ofInt 64 (2 ^ i : Int) = BitVec.twoPow 64 i → (Go.Lf.bits .and .i64 (num X) (2 ^ i : Int) = 0 ↔ X.getLsbD i = false) := fun i hi he => by
    rw [bits_and, num_inj, num_zero, he, BitVec.and_twoPow]
    cases hx : X.getLsbD i with
    | false => simp
    | true =>
      simp only [if_true]
      constructor
      · intro h
        have := congrArg (fun x : BitVec 64 => x.getLsbD i) h
        simp [BitVec.getLsbD_twoPow, hi] at this
      · intro h; cases h
  exact lt7 (key 0 (by decide) (by decide)) (key 1 (by decide) (by decide)) (key 2 (by decide) (by decide)) (key 3 (by decide) (by decide)) (key 4 (by decide) (by decide)) (key 5 (by decide) (by decide)) (key 6 (by decide) (by decide))
theorem rbit_eq (a : Bs) : folioref06_bit a = some (match at7 0 W7 a with | some i => (2 ^ i : Int) | none => 0) := by
  unfold folioref06_bit
  rw [rwords_eq]
  simp only [Option.bind_some]
  have h := range_loopI0 (l := W7) (κ := Unit ⊕ Int) (B := fun z2 => bif (decide (z2 < (((List.length W7) : Nat) : Int))) then ((Go.Lf.idx W7 z2)).bind fun r3 =>
     bif (decide ((r3 : List (UInt8)) = a)) then ((Go.Lf.nn (Go.IntKind.wrap .u64 z2) (Go.IntKind.wrap .i64 ((1 : Int) * ((2 : Int) ^ (Min.min (Int.toNat (Go.IntKind.wrap .u64 z2)) (64 : Nat))))))).bind fun r4 =>
     some (.inr (.inr r4))
     else some (.inl (Go.IntKind.wrap .i64 (z2 + (1 : Int))))
     else some (.inr (.inl ()))) (fun i x => if x = a then some (.inr (.inr (2 ^ i : Int))) else some (.inl ())) (.inl ()) (fun i x hx => by
      have hlt : i < 7 := (List.getElem?_eq_some_iff.1 hx).1
      have e1 : (i : Int) < ((W7.length : Nat) : Int) := by show (i : Int) < 7; omega
      rw [idx_nat, hx, wrapS (by omega), rshl_at i hlt]
      by_cases hw : x = a <;> simp [e1, hw, onSum]) (by simp) 7 0 rfl
  rw [List.drop_zero] at h
  have key : ∀ (l : List Bs) (k : Nat), foldI (fun i x (_ : Unit) => if x = a then some (.inr (.inr (2 ^ i : Int))) else some (.inl ())) (fun _ => (.inl () : Unit ⊕ Int)) k l () = some (match at7 k l a with | some i => .inr (2 ^ i : Int) | none => .inl ()) := fun l => by
    induction l with
    | nil => intro k; rfl
    | cons x r ih =>
      intro k
      unfold foldI at7
      by_cases hx : x = a
      · simp [hx, onSum]
      · simp only [hx, if_false, Option.bind_some, onSum]
        exact ih (k + 1)
  rw [key] at h
  have h : loopC _ (0 : Int) = _ := h
  rw [h]
  cases at7 0 W7 a <;> rfl

/-- an attribute's word, taken -/
def attrS (c : Chg) : Bs → Option Chg
  | [] => none
  | s :: a => match at7 0 W7 a with
    | none => none
    | some i => if (BitVec.ofInt 64 c.1 ||| BitVec.ofInt 64 c.2.1).getLsbD i then none
      else if s.toNat = 43 then some (Go.Lf.bits .or .i64 c.1 (2 ^ i : Int), c.2)
      else if s.toNat = 45 then some (c.1, Go.Lf.bits .or .i64 c.2.1 (2 ^ i : Int), c.2.2)
      else none
theorem W7_nodup {i j : Nat} {x : Bs} (hi : W7[i]? = some x) (hj : W7[j]? = some x) : i = j := by
  have hn : W7.Nodup := by decide
  exact (List.getElem?_inj (List.getElem?_eq_some_iff.1 hi).1 hn).1 (hi.trans hj.symm)
def stepA (s : UInt8) (a : Bs) (i : Nat) (x : Bs) (st : Sty) : Option (Sty ⊕ (Sty ⊕ (Bool × Sty))) :=
  if x = a then
    if (BitVec.ofInt 64 st.2.2.1.1 ||| BitVec.ofInt 64 st.2.2.1.2.1).getLsbD i then some (.inl st)
    else if s.toNat = 43 then some (.inr (.inr (true, st.1, st.2.1, (Go.Lf.bits .or .i64 st.2.2.1.1 (2 ^ i : Int), st.2.2.1.2), st.2.2.2)))
    else if s.toNat = 45 then some (.inr (.inr (true, st.1, st.2.1, (st.2.2.1.1, Go.Lf.bits .or .i64 st.2.2.1.2.1 (2 ^ i : Int), st.2.2.1.2.2), st.2.2.2)))
    else some (.inl st)
  else some (.inl st)
theorem foldA (s : UInt8) (a : Bs) (st : Sty) : ∀ (l : List Bs) (k : Nat), l.Nodup → foldI (stepA s a) (fun st => (.inl st : Sty ⊕ (Bool × Sty))) k l st = some (match at7 k l a with
    | none => .inl st
    | some i => if (BitVec.ofInt 64 st.2.2.1.1 ||| BitVec.ofInt 64 st.2.2.1.2.1).getLsbD i then .inl st
      else if s.toNat = 43 then .inr (true, st.1, st.2.1, (Go.Lf.bits .or .i64 st.2.2.1.1 (2 ^ i : Int), st.2.2.1.2), st.2.2.2)
      else if s.toNat = 45 then .inr (true, st.1, st.2.1, (st.2.2.1.1, Go.Lf.bits .or .i64 st.2.2.1.2.1 (2 ^ i : Int), st.2.2.1.2.2), st.2.2.2)
      else .inl st) := fun l => by
  have none_of : ∀ (l : List Bs) (k : Nat), a ∉ l → at7 k l a = none ∧ foldI (stepA s a) (fun st => (.inl st : Sty ⊕ (Bool × Sty))) k l st = some (.inl st) := fun l => by
    induction l with
    | nil => intro k _; exact ⟨rfl, rfl⟩
    | cons x r ih =>
      intro k hn
      have hx : ¬ x = a := fun e => hn (e ▸ List.mem_cons_self)
      obtain ⟨h1, h2⟩ := ih (k + 1) fun h => hn (List.mem_cons_of_mem _ h)
      unfold at7 foldI stepA
      simp only [hx, if_false, Option.bind_some, onSum]
      exact ⟨h1, h2⟩
  induction l with
  | nil => intro k _; rfl
  | cons x r ih =>
    intro k hn
    obtain ⟨h1, h2⟩ := List.nodup_cons.1 hn
    by_cases hx : x = a
    · subst hx
      obtain ⟨_, g2⟩ := none_of r (k + 1) h1
      unfold foldI at7
      rw [if_pos rfl]
      have hs : stepA s x k x st = (if (BitVec.ofInt 64 st.2.2.1.1 ||| BitVec.ofInt 64 st.2.2.1.2.1).getLsbD k then some (.inl st)
        else if s.toNat = 43 then some (.inr (.inr (true, st.1, st.2.1, (Go.Lf.bits .or .i64 st.2.2.1.1 (2 ^ k : Int), st.2.2.1.2), st.2.2.2)))
        else if s.toNat = 45 then some (.inr (.inr (true, st.1, st.2.1, (st.2.2.1.1, Go.Lf.bits .or .i64 st.2.2.1.2.1 (2 ^ k : Int), st.2.2.1.2.2), st.2.2.2)))
        else some (.inl st)) := by unfold stepA; rw [if_pos rfl]
      rw [hs]
      cases hb : (BitVec.ofInt 64 st.2.2.1.1 ||| BitVec.ofInt 64 st.2.2.1.2.1).getLsbD k with
      | true => simp only [if_true, Option.bind_some, onSum, hb]; exact g2
      | false =>
        by_cases h43 : s.toNat = 43
        · simp [onSum, hb, h43]
        · by_cases h45 : s.toNat = 45
          · simp [onSum, hb, h45]
          · simp only [Bool.false_eq_true, if_false, h43, h45, Option.bind_some, onSum, hb]; exact g2
    · unfold foldI at7
      rw [if_neg hx]
      unfold stepA
      simp only [hx, if_false, Option.bind_some, onSum]
      exact ih (k + 1) h2
def attrB (s : UInt8) (a : Bs) (z : Int × Sty) : Option ((Int × Sty) ⊕ (Sty ⊕ (Bool × Sty))) :=
 (bif (decide (z.1 < (((List.length W7) : Nat) : Int))) then (((Go.Lf.idx W7 z.1)).bind fun r3 =>
       (((Go.Lf.sub (s :: a) (1 : Int) (((List.length (s :: a)) : Nat) : Int))).bind fun r4 =>
         bif (!(decide ((r4 : List (UInt8)) ≠ r3))) then ((Go.Lf.nn z.1 (Int.fdiv (Go.Lf.bits .or .i64 z.2.2.2.1.1 z.2.2.2.1.2.1) ((2 : Int) ^ (Min.min (Int.toNat z.1) (64 : Nat)))))).bind fun r5 =>
         some ((decide (((Go.Lf.bits .and .i64 r5 (1 : Int)) : Int) = (1 : Int))), z.2)
         else some (true, z.2)).bind fun r6 =>
       bif r6.1 then some (.inl r6.2)
       else ((Go.Lf.idx (s :: a) (0 : Int))).bind fun r7 =>
       bif (decide (((((UInt8.toNat r7) : Nat) : Int) : Int) = (43 : Int))) then ((Go.Lf.nn z.1 (Go.IntKind.wrap .i64 ((1 : Int) * ((2 : Int) ^ (Min.min (Int.toNat z.1) (64 : Nat))))))).bind fun r8 =>
       some (.inr (true, (r6.2.1, (r6.2.2.1, (((Go.Lf.bits .or .i64 r6.2.2.2.1.1 r8), r6.2.2.2.1.2), r6.2.2.2.2)))))
       else bif (decide (((((UInt8.toNat r7) : Nat) : Int) : Int) = (45 : Int))) then ((Go.Lf.nn z.1 (Go.IntKind.wrap .i64 ((1 : Int) * ((2 : Int) ^ (Min.min (Int.toNat z.1) (64 : Nat))))))).bind fun r9 =>
       some (.inr (true, (r6.2.1, (r6.2.2.1, ((r6.2.2.2.1.1, ((Go.Lf.bits .or .i64 r6.2.2.2.1.2.1 r9), r6.2.2.2.1.2.2)), r6.2.2.2.2)))))
       else some (.inl r6.2) : Option (((List (UInt8)) × ((List (UInt8)) × (((Int) × ((Int) × ((Int) × (Unit)))) × (Unit)))) ⊕ ((Bool) × ((List (UInt8)) × ((List (UInt8)) × (((Int) × ((Int) × ((Int) × (Unit)))) × (Unit))))))).bind fun r10 =>
     Go.Lf.onSum r10 (fun a11 =>
     some (.inl ((Go.IntKind.wrap .i64 (z.1 + (1 : Int))), a11))) (fun b12 =>
     some (.inr (.inr (b12.1, b12.2))))
     else some (.inr (.inl z.2)))
theorem attr_eq (st : Sty) (s : UInt8) (a : Bs) (ha : a.length < 9223372036854775807) : style_attribute st (s :: a) = some (match attrS st.2.2.1 (s :: a) with
    | none => (false, st)
    | some c => (true, st.1, st.2.1, c, st.2.2.2)) := by
  unfold style_attribute
  rw [words_eq]
  simp only [Option.bind_some]
  have hsub : sub (s :: a) 1 (((s :: a).length : Nat) : Int) = some a := by
    have := sub_nat (l := s :: a) (a := 1) (b := (s :: a).length) (by simp) (Nat.le_refl _)
    simpa using this
  have hidx : idx (s :: a) 0 = some s := rfl
  have hl := range_loopI (l := W7) (σ := Sty) (κ := Sty ⊕ (Bool × Sty)) (B := attrB s a) (stepA s a) .inl (fun i x st hx => by
    have hlt : i < 7 := (List.getElem?_eq_some_iff.1 hx).1
    have e1 : (i : Int) < ((W7.length : Nat) : Int) := by show (i : Int) < 7; omega
    show attrB s a ((i : Int), st) = _
    unfold attrB
    dsimp only
    have hnn : nn (i : Int) (Int.fdiv (Go.Lf.bits .or .i64 st.2.2.1.1 st.2.2.1.2.1) ((2 : Int) ^ (Min.min (Int.toNat (i : Int)) (64 : Nat)))) = some (Int.fdiv (num (BitVec.ofInt 64 st.2.2.1.1 ||| BitVec.ofInt 64 st.2.2.1.2.1)) ((2 : Int) ^ (Min.min (Int.toNat (i : Int)) (64 : Nat)))) := by
      unfold nn
      rw [if_neg (by omega), bits_or]
    rw [idx_nat, hx, hsub, hidx, wrapS (by omega), shl_at i hlt, hnn]
    unfold stepA
    simp only [e1, decide_true, cond_true, Option.bind_some]
    by_cases hw : x = a
    · subst hw
      have hb := bit_at (BitVec.ofInt 64 st.2.2.1.1 ||| BitVec.ofInt 64 st.2.2.1.2.1) i hlt
      revert hb
      generalize Int.fdiv (num (BitVec.ofInt 64 st.2.2.1.1 ||| BitVec.ofInt 64 st.2.2.1.2.1)) ((2 : Int) ^ (Min.min (Int.toNat (i : Int)) (64 : Nat))) = q
      intro hb
      cases hbit : (BitVec.ofInt 64 st.2.2.1.1 ||| BitVec.ofInt 64 st.2.2.1.2.1).getLsbD i with
      | true => simp [hb.2 hbit, onSum]
      | false =>
        have hb2 := mt hb.1 (by rw [hbit]; simp)
        by_cases h43 : s.toNat = 43
        · have : ((s.toNat : Nat) : Int) = 43 := by omega
          simp [hb2, h43, onSum]
        · have g43 : ¬ ((s.toNat : Nat) : Int) = 43 := by omega
          by_cases h45 : s.toNat = 45
          · simp [hb2, h45, onSum]
          · have g45 : ¬ ((s.toNat : Nat) : Int) = 45 := by omega
            simp [hb2, h43, h45, g43, g45, onSum]
    · have hw' : ¬ a = x := fun e => hw e.symm
      simp [hw, hw', onSum]) (fun st => by
      unfold attrB
      simp) 7 0 st rfl
  rw [List.drop_zero, foldA s a st W7 0 (by decide)] at hl
  have hl : loopC (attrB s a) ((0 : Int), st) = _ := hl
  change (loopC (attrB s a) ((0 : Int), st)).bind _ = _
  rw [hl]
  unfold attrS
  simp only [Option.bind_some]
  cases at7 0 W7 a with
  | none => simp [onSum]
  | some i =>
    simp only [onSum]
    by_cases h1 : (BitVec.ofInt 64 st.2.2.1.1 ||| BitVec.ofInt 64 st.2.2.1.2.1).getLsbD i = true
    · simp [h1]
    · by_cases h2 : s.toNat = 43
      · simp [h1, h2]
      · by_cases h3 : s.toNat = 45 <;> simp [h1, h2, h3]
end Go.Fn

namespace Go.Fn
open Go Go.Lf

/-- words parted by blanks -/
def shut (acc : List Bs) (cur : Bs) : List Bs := if cur = [] then acc else acc ++ [cur]
def sp : List Bs → Bs → Bs → List Bs
  | acc, cur, [] => shut acc cur
  | acc, cur, b :: r => if b.toNat = 32 then sp (shut acc cur) [] r else sp acc (cur ++ [b]) r
theorem sp_cons (acc : List Bs) (cur : Bs) (b : UInt8) (r : Bs) : sp acc cur (b :: r) = if b.toNat = 32 then sp (shut acc cur) [] r else sp acc (cur ++ [b]) r := rfl
theorem sp_skip : ∀ (xs : Bs) (acc : List Bs) (cur r : Bs), (∀ b ∈ xs, b.toNat ≠ 32) → sp acc cur (xs ++ r) = sp acc (cur ++ xs) r
  | [], acc, cur, r, _ => by simp
  | x :: xs, acc, cur, r, h => by
    have h1 := h x List.mem_cons_self
    rw [List.cons_append, sp_cons, if_neg h1, sp_skip xs acc (cur ++ [x]) r fun b hb => h b (List.mem_cons_of_mem _ hb)]
    simp [List.append_assoc]
theorem shut_len (acc : List Bs) (cur : Bs) : (shut acc cur).length ≤ acc.length + cur.length := by
  unfold shut
  split
  · omega
  · rename_i h
    have : cur.length ≠ 0 := fun e => h (List.length_eq_zero_iff.1 e)
    simp; omega
theorem sp_len : ∀ (r : Bs) (acc : List Bs) (cur : Bs), (sp acc cur r).length ≤ acc.length + cur.length + r.length
  | [], acc, cur => by unfold sp; have := shut_len acc cur; simpa using this
  | b :: r, acc, cur => by
    unfold sp
    split
    · have h1 := sp_len r (shut acc cur) []
      have h2 := shut_len acc cur
      simp at h1 ⊢; omega
    · have h1 := sp_len r acc (cur ++ [b])
      simp at h1 ⊢; omega
theorem sp_words : ∀ (r : Bs) (acc : List Bs) (cur : Bs) (n : Nat), (∀ x ∈ acc, x ≠ [] ∧ x.length ≤ n) → cur.length + r.length ≤ n → ∀ x ∈ sp acc cur r, x ≠ [] ∧ x.length ≤ n := by
  have hs : ∀ (acc : List Bs) (cur : Bs) (n : Nat), (∀ x ∈ acc, x ≠ [] ∧ x.length ≤ n) → cur.length ≤ n → ∀ x ∈ shut acc cur, x ≠ [] ∧ x.length ≤ n := fun acc cur n h hc x hx => by
    unfold shut at hx
    split at hx
    · exact h x hx
    · rename_i hne
      rcases List.mem_append.1 hx with h1 | h1
      · exact h x h1
      · rw [List.mem_singleton.1 h1]; exact ⟨hne, hc⟩
  intro r
  induction r with
  | nil => intro acc cur n h hc; exact hs acc cur n h (by simpa using hc)
  | cons b r ih =>
    intro acc cur n h hc
    unfold sp
    simp only [List.length_cons] at hc
    split
    · exact ih _ _ n (hs acc cur n h (by omega)) (by simp; omega)
    · exact ih _ _ n h (by simp; omega)

theorem take_succ_at {s : Bs} {a i : Nat} {b : UInt8} (h : a ≤ i) (hb : s[i]? = some b) : (s.drop a).take (i + 1 - a) = (s.drop a).take (i - a) ++ [b] := by
  rw [show i + 1 - a = (i - a) + 1 by omega, List.take_add_one, List.getElem?_drop, show a + (i - a) = i by omega, hb]; rfl
theorem rwords_loop (s : Bs) (hs : s.length ≤ 4096) : folioref06_words s = some (sp [] [] s) := by
  unfold folioref06_words
  have key : ∀ (B : Int × Int × List Bs → Option ((Int × Int × List Bs) ⊕ List Bs)), (∀ z1, B z1 = (bif (decide (z1.1 ≤ (((List.length s) : Nat) : Int))) then ((bif (decide (z1.1 < (((List.length s) : Nat) : Int))) then ((Go.Lf.idx s z1.1)).bind fun r2 =>
         some ((decide (((((UInt8.toNat r2) : Nat) : Int) : Int) ≠ (32 : Int))), z1.2.2)
         else some (false, z1.2.2)).bind fun r3 =>
       bif r3.1 then some (z1.2.1, r3.2)
       else (bif (decide (z1.2.1 < z1.1)) then ((Go.Lf.sub s z1.2.1 z1.1)).bind fun r4 =>
         ((Go.Lf.app (16 : Nat) r3.2 (r4 :: ([] : List (List (UInt8)))))).bind fun r5 =>
         some r5
         else some r3.2).bind fun r6 =>
       some ((Go.IntKind.wrap .i64 (z1.1 + (1 : Int))), r6)).bind fun r7 =>
     some (.inl ((Go.IntKind.wrap .i64 (z1.1 + (1 : Int))), (r7.1, r7.2)))
     else some (.inr z1.2.2))) → ∀ (m i a : Nat) (out : List Bs), i + m = s.length → a ≤ i → out.length ≤ i → loopC B ((i : Int), (a : Int), out) = some (sp out ((s.drop a).take (i - a)) (s.drop i)) := fun B hB => by
    have hsh : ∀ (i a : Nat) (out : List Bs), i ≤ s.length → a ≤ i → out.length ≤ i → (bif (decide ((a : Int) < (i : Int))) then ((Go.Lf.sub s (a : Int) (i : Int))).bind fun r4 =>
         ((Go.Lf.app (16 : Nat) out (r4 :: ([] : List (List (UInt8)))))).bind fun r5 =>
         some r5
         else some out) = some (shut out ((s.drop a).take (i - a))) := fun i a out hi ha ho => by
      by_cases h : a < i
      · have h' : (a : Int) < i := by omega
        have hne : (s.drop a).take (i - a) ≠ [] := fun e => by
          have := congrArg List.length e
          simp at this; omega
        simp only [h', decide_true, cond_true, sub_nat ha hi, Option.bind_some]
        rw [app_of (by simp; omega)]
        unfold shut
        rw [if_neg hne]; rfl
      · have h' : ¬ (a : Int) < i := by omega
        have : i - a = 0 := by omega
        simp [h', this, shut]
    intro m
    induction m with
    | zero =>
      intro i a out hi ha ho
      have hi : i = s.length := by omega
      have e1 : (i : Int) ≤ (s.length : Int) := by omega
      have e2 : ¬ (i : Int) < (s.length : Int) := by omega
      rw [loopC_step, hB]
      simp only [e1, e2, decide_true, decide_false, cond_true, cond_false, Option.bind_some, hsh i a out (by omega) ha ho]
      rw [wrapS (by omega), loopC_step, hB]
      have e3 : ¬ ((i + 1 : Nat) : Int) ≤ (s.length : Int) := by omega
      simp only [e3, decide_false, cond_false, Option.bind_some]
      rw [List.drop_of_length_le (l := s) (i := i) (by omega)]
      rfl
    | succ m ih =>
      intro i a out hi ha ho
      have e1 : (i : Int) ≤ (s.length : Int) := by omega
      have e2 : (i : Int) < (s.length : Int) := by omega
      have hlt : i < s.length := by omega
      have hg : s[i]? = some s[i] := List.getElem?_eq_getElem hlt
      rw [loopC_step, hB, List.drop_eq_getElem_cons hlt]
      simp only [e1, e2, decide_true, cond_true, Option.bind_some, idx_nat, hg]
      unfold sp
      by_cases h32 : s[i].toNat = 32
      · have e3 : decide (((s[i].toNat : Nat) : Int) ≠ 32) = false := decide_eq_false (by omega)
        have hl : (shut out ((s.drop a).take (i - a))).length ≤ i + 1 := by
          unfold shut
          split
          · omega
          · simp only [List.length_append, List.length_singleton]; omega
        rw [if_pos h32]
        simp only [e3, cond_false, Option.bind_some, hsh i a out (by omega) ha ho]
        rw [wrapS (by omega), ih (i + 1) (i + 1) _ (by omega) (by omega) hl]
        simp
      · have e3 : decide (((s[i].toNat : Nat) : Int) ≠ 32) = true := decide_eq_true (by omega)
        rw [if_neg h32]
        simp only [e3, cond_true, Option.bind_some]
        rw [wrapS (by omega), ih (i + 1) a out (by omega) (by omega) (by omega), take_succ_at ha hg]
  have h := key _ (fun _ => rfl) s.length 0 0 [] (by omega) (by omega) (by simp)
  have h : loopC _ ((0 : Int), (0 : Int), ([] : List Bs)) = _ := h
  rw [h]
  simp

/-- what a rune of more than one byte skips -/
theorem decode_cont (s : ByteArray) (pos k : Nat) (hk : 0 < k) (h : k < (Utf8.decode s pos).2) : pos + k < s.size ∧ (s.get! (pos + k)).toNat / 64 = 2 := by
  simp only [Utf8.decode] at h
  repeat' split at h
  all_goals simp_all
  all_goals first
    | omega
    | (have h1 : k = 1 := by omega
       subst h1; omega)
    | (have h1 : k = 1 ∨ k = 2 := by omega
       rcases h1 with rfl | rfl <;> omega)
    | (have h1 : k = 1 ∨ k = 2 ∨ k = 3 := by omega
       rcases h1 with rfl | rfl | rfl <;> omega)
theorem getS (s : Bs) (i : Nat) (h : i < s.length) : (⟨s.toArray⟩ : ByteArray).get! i = s[i] := by
  simp [ByteArray.get!, h]
theorem extS (s : Bs) (a b : Nat) : ((⟨s.toArray⟩ : ByteArray).extract a b).data.toList = (s.drop a).take (b - a) := by
  simp [ByteArray.data_extract, List.extract_eq_take_drop]
theorem is32 (r : Nat) : decide ((r : Int) = 32) = decide (r = 32) := by
  by_cases h : r = 32
  · subst h; rfl
  · have : ¬ (r : Int) = 32 := by omega
    simp [h, this]
/-- the pieces that the library cuts -/
def piece (s : Bs) (x : Nat × Nat) : Bs := (s.drop x.1).take (x.2 - x.1)
theorem fields_go (s : Bs) : ∀ (f pos : Nat) (st : Option Nat) (acc : List (Nat × Nat)), s.length ≤ f + pos → pos ≤ s.length → (∀ a, st = some a → a < pos) →
    (Lib.closeSpans ⟨s.toArray⟩ (Lib.spansFromP (fun r => decide ((r : Int) = 32)) ⟨s.toArray⟩ f pos st acc)).map (piece s) = sp (acc.map (piece s)) (match st with | none => [] | some a => piece s (a, pos)) (s.drop pos) := by
  have hsz : (⟨s.toArray⟩ : ByteArray).size = s.length := rfl
  have hend : ∀ (f pos : Nat) (st : Option Nat) (acc : List (Nat × Nat)), pos = s.length → (∀ a, st = some a → a < pos) → (Lib.closeSpans ⟨s.toArray⟩ (Lib.spansFromP (fun r => decide ((r : Int) = 32)) ⟨s.toArray⟩ f pos st acc)).map (piece s) = sp (acc.map (piece s)) (match st with | none => [] | some a => piece s (a, pos)) (s.drop pos) := fun f pos st acc hp hst => by
    subst hp
    rw [Lib.spansFromP_end _ _ _ _ _ _ (by rw [hsz]; omega), List.drop_length]
    cases st with
    | none => simp [Lib.closeSpans, sp, shut]
    | some a =>
      have ha := hst a rfl
      have hne : piece s (a, s.length) ≠ [] := fun e => by
        have := congrArg List.length e
        simp [piece] at this; omega
      simp only [Lib.closeSpans, sp, shut, hne, if_false, hsz]
      simp
  intro f
  induction f with
  | zero => intro pos st acc h1 h2 h3; exact hend 0 pos st acc (by omega) h3
  | succ f ih =>
    intro pos st acc h1 h2 h3
    by_cases hp : pos < s.length
    · have hg : s[pos]? = some s[pos] := List.getElem?_eq_getElem hp
      have hd : s.drop pos = s[pos] :: s.drop (pos + 1) := List.drop_eq_getElem_cons hp
      have hat : (⟨s.toArray⟩ : ByteArray)[pos]'hp = s[pos] := rfl
      unfold Lib.spansFromP
      rw [if_pos (show pos < (⟨s.toArray⟩ : ByteArray).size from hp)]
      by_cases hlo : s[pos].toNat < 128
      · have hdec : Utf8.decode (⟨s.toArray⟩ : ByteArray) pos = (s[pos].toNat, 1) := decode_ascii (⟨s.toArray⟩ : ByteArray) pos hp hlo
        rw [hdec]
        dsimp only
        rw [is32]
        by_cases h32 : s[pos].toNat = 32
        · rw [h32, hd]
          simp only [decide_true, if_true]
          rw [sp_cons, if_pos h32]
          cases st with
          | none =>
            dsimp only
            rw [ih (pos + 1) none acc (by omega) (by omega) (fun a h => by cases h)]
            rfl
          | some a =>
            have ha := h3 a rfl
            dsimp only
            have hne : piece s (a, pos) ≠ [] := fun e => by
              have := congrArg List.length e
              simp [piece] at this; omega
            rw [ih (pos + 1) none _ (by omega) (by omega) (fun a h => by cases h)]
            simp only [shut, hne, if_false, List.map_append, List.map_cons, List.map_nil]
        · simp only [h32, decide_false, Bool.false_eq_true, if_false]
          rw [hd, sp_cons, if_neg h32]
          cases st with
          | none =>
            dsimp only
            rw [ih (pos + 1) (some pos) acc (by omega) (by omega) (fun a h => by cases h; omega)]
            dsimp only
            congr 1
            unfold piece
            dsimp only
            rw [hd, show pos + 1 - pos = 1 by omega]; rfl
          | some a =>
            have ha := h3 a rfl
            dsimp only
            rw [ih (pos + 1) (some a) acc (by omega) (by omega) (fun b h => by cases h; omega)]
            dsimp only
            congr 1
            exact take_succ_at (by omega) hg
      · have hhi := decode_high (⟨s.toArray⟩ : ByteArray) pos hp (by rw [hat]; omega)
        have hco := decode_cont (⟨s.toArray⟩ : ByteArray) pos
        revert hhi hco
        generalize Utf8.decode (⟨s.toArray⟩ : ByteArray) pos = d
        obtain ⟨r, n⟩ := d
        intro hhi hco
        dsimp only at hhi hco ⊢
        have hn : pos + n ≤ s.length := by
          by_cases h : n = 1
          · omega
          · have := (hco (n - 1) (by omega) (by omega)).1
            rw [hsz] at this; omega
        have hr : decide ((r : Int) = 32) = false := decide_eq_false (by omega)
        have hsplit : s.drop pos = (s.drop pos).take n ++ s.drop (pos + n) := by
          rw [← List.drop_drop]; exact (List.take_append_drop n (s.drop pos)).symm
        have hall : ∀ b ∈ (s.drop pos).take n, b.toNat ≠ 32 := fun b hb => by
          obtain ⟨k, hk, rfl⟩ := List.mem_iff_getElem.1 hb
          simp only [List.length_take, List.length_drop] at hk
          rw [List.getElem_take, List.getElem_drop]
          by_cases h0 : k = 0
          · subst h0
            simp only [Nat.add_zero]; omega
          · have := (hco k (by omega) (by omega)).2
            rw [getS s (pos + k) (by omega)] at this
            omega
        rw [hsplit, sp_skip _ _ _ _ hall]
        simp only [hr, Bool.false_eq_true, if_false]
        cases st with
        | none =>
          dsimp only
          rw [ih (pos + n) (some pos) acc (by omega) hn (fun a h => by cases h; omega)]
          dsimp only
          congr 1
          unfold piece
          simp
        | some a =>
          have ha := h3 a rfl
          dsimp only
          rw [ih (pos + n) (some a) acc (by omega) hn (fun b h => by cases h; omega)]
          dsimp only
          congr 1
          unfold piece
          dsimp only
          rw [show pos + n - a = (pos - a) + n by omega, List.take_add, List.drop_drop, show a + (pos - a) = pos by omega]
    · exact hend (f + 1) pos st acc (by omega) h3
theorem fields_eq (s : Bs) (hs : s.length ≤ 4096) : strings_FieldsFunc s () = some (sp [] [] s) := by
  unfold strings_FieldsFunc
  rw [if_pos (by omega)]
  have h := fields_go s s.length 0 none [] (by omega) (by omega) (fun a h => by cases h)
  rw [List.drop_zero] at h
  rw [← show _ = sp [] [] s from h]
  unfold Lib.goFieldsP Lib.spansOfP
  rw [List.map_map]
  congr 1
  refine List.map_congr_left fun x _ => ?_
  exact extS s x.1 x.2
end Go.Fn

namespace Go.Fn
open Go Go.Lf

/-- the first colon -/
def p58 : Bs → Option Nat
  | [] => none
  | b :: r => if b.toNat = 58 then some 0 else (p58 r).map (· + 1)
theorem p58_lt : ∀ (s : Bs) (i : Nat), p58 s = some i → i < s.length
  | [], i, h => by cases h
  | b :: r, i, h => by
    unfold p58 at h
    split at h
    · injection h with h; subst h; simp
    · cases hr : p58 r with
      | none => rw [hr] at h; cases h
      | some j =>
        rw [hr] at h
        have := p58_lt r j hr
        have h : j + 1 = i := by injection h
        simp only [List.length_cons]; omega
theorem byte_eq {b c : UInt8} : b = c ↔ b.toNat = c.toNat := ⟨fun h => by rw [h], fun h => UInt8.toNat_inj.1 h⟩
theorem index58 : ∀ s : Bs, Lib.index s [58] = match p58 s with | none => -1 | some i => (i : Int)
  | [] => rfl
  | b :: r => by
    have ih := index58 r
    unfold Lib.index p58
    by_cases hb : b.toNat = 58
    · have : b = 58 := byte_eq.2 (by rw [hb]; rfl)
      subst this
      simp [List.isPrefixOf]
    · have h1 : ¬ (58 : UInt8) = b := fun e => hb (by rw [← e]; rfl)
      have h2 : ([58] : Bs).isPrefixOf (b :: r) = false := by simp [List.isPrefixOf, h1]
      rw [h2, ih]
      simp only [hb, if_false, Bool.false_eq_true]
      cases p58 r with
      | none => rfl
      | some i =>
        have : ((i : Int) == -1) = false := by simp
        simp only [this]
        rfl
theorem cut58 (s : Bs) : Lib.cut s [58] = match p58 s with | none => (s, [], false) | some i => (s.take i, s.drop (i + 1), true) := by
  unfold Lib.cut
  rw [index58]
  cases p58 s with
  | none => rfl
  | some i => simp
/-- a style's own name and its base's -/
def nm (s : Bs) : Bs × Bs × Bool := match p58 s with
  | none => (s, [], okName s)
  | some i => (s.take i, s.drop (i + 1), okName (s.take i) && okName (s.drop (i + 1)))
theorem rnames_eq (s : Bs) (hs : s.length ≤ 4096) : folioref06_names s = some (nm s) := by
  unfold folioref06_names
  have h := range_loopI0 (l := s) (κ := Unit ⊕ (Bs × Bs × Bool)) (B := fun z1 => bif (decide (z1 < (((List.length s) : Nat) : Int))) then ((Go.Lf.idx s z1)).bind fun r2 =>
     bif (decide (((((UInt8.toNat r2) : Nat) : Int) : Int) = (58 : Int))) then (((Go.Lf.sub s (0 : Int) z1)).bind fun r3 =>
       ((Go.Lf.sub s (Go.IntKind.wrap .i64 (z1 + (1 : Int))) (((List.length s) : Nat) : Int))).bind fun r4 =>
       ((Go.Lf.sub s (0 : Int) z1)).bind fun r5 =>
       ((Go.Fn.folioref06_Name r5)).bind fun r6 =>
       bif r6 then ((Go.Lf.sub s (Go.IntKind.wrap .i64 (z1 + (1 : Int))) (((List.length s) : Nat) : Int))).bind fun r7 =>
       ((Go.Fn.folioref06_Name r7)).bind fun r8 =>
       some (r3, (r4, r8))
       else some (r3, (r4, false))).bind fun r9 =>
     some (.inr (.inr (r9.1, (r9.2.1, r9.2.2))))
     else some (.inl (Go.IntKind.wrap .i64 (z1 + (1 : Int))))
     else some (.inr (.inl ()))) (fun i b => if b.toNat = 58 then some (.inr (.inr (s.take i, s.drop (i + 1), okName (s.take i) && okName (s.drop (i + 1))))) else some (.inl ())) (.inl ()) (fun i x hx => by
      have hlt : i < s.length := (List.getElem?_eq_some_iff.1 hx).1
      have e1 : (i : Int) < ((s.length : Nat) : Int) := by omega
      have e2 : sub s 0 (i : Int) = some (s.take i) := by
        have := sub_nat (l := s) (a := 0) (b := i) (by omega) (by omega)
        simpa using this
      have e3 : sub s ((i + 1 : Nat) : Int) ((s.length : Nat) : Int) = some (s.drop (i + 1)) := by
        rw [sub_nat (by omega) (by omega)]
        rw [List.take_of_length_le (by simp)]
      rw [idx_nat, hx, wrapS (by omega)]
      simp only [e1, decide_true, cond_true, Option.bind_some, e2, e3]
      rw [rname_eq _ (by simp; omega), rname_eq _ (by simp; omega)]
      by_cases h58 : x.toNat = 58
      · have : ((x.toNat : Nat) : Int) = 58 := by omega
        cases hk : okName (s.take i) <;> simp [h58, onSum]
      · have : ¬ ((x.toNat : Nat) : Int) = 58 := by omega
        simp [h58, this, onSum]) (by simp) s.length 0 (by omega)
  rw [List.drop_zero] at h
  have key : ∀ (l : Bs) (k : Nat), foldI (fun i b (_ : Unit) => if b.toNat = 58 then some (.inr (.inr (s.take i, s.drop (i + 1), okName (s.take i) && okName (s.drop (i + 1))))) else some (.inl ())) (fun _ => (.inl () : Unit ⊕ (Bs × Bs × Bool))) k l () = some (match p58 l with | some i => .inr (s.take (k + i), s.drop (k + i + 1), okName (s.take (k + i)) && okName (s.drop (k + i + 1))) | none => .inl ()) := fun l => by
    induction l with
    | nil => intro k; rfl
    | cons x r ih =>
      intro k
      unfold foldI p58
      by_cases hx : x.toNat = 58
      · simp [hx, onSum]
      · simp only [hx, if_false, Option.bind_some, onSum]
        rw [ih (k + 1)]
        cases p58 r with
        | none => rfl
        | some i => simp only [Option.map_some, show k + 1 + i = k + (i + 1) by omega]
  rw [key] at h
  have h : loopC _ (0 : Int) = _ := h
  rw [h, rname_eq s (by omega)]
  unfold nm
  cases p58 s with
  | none => rfl
  | some i => simp [onSum]

abbrev COLOR : Bs := [99, 111, 108, 111, 114]
/-- the words behind the first -/
def pw : Bool → Sty → List Bs → Option Sty
  | false, st, [] => some st
  | true, _, [] => none
  | true, st, w :: r => match colS w with
    | some n => if st.2.2.1.2.2.1 = -1 then pw false (st.1, st.2.1, (st.2.2.1.1, st.2.2.1.2.1, (n : Int), ()), ()) r else none
    | none => none
  | false, st, w :: r => if w = COLOR then pw true st r else match attrS st.2.2.1 w with
    | some c => pw false (st.1, st.2.1, c, ()) r
    | none => none
def zs : Sty := ([], [], (0, 0, 0, ()), ())
theorem plain_eq : style_plain = some (0, 0, -1, ()) := by kernel_rfl
theorem none_eq : folioref06_None = some (0, 0, -1, ()) := by kernel_rfl
end Go.Fn

namespace Go.Fn
open Go Go.Lf

abbrev CLR : Bs := ((99 : UInt8) :: ((111 : UInt8) :: ((108 : UInt8) :: ((111 : UInt8) :: ((114 : UInt8) :: ([] : List (UInt8)))))))
/-- the style's step -/
noncomputable def sB (r1 : List Bs) (z8 : Int × Sty × Sty) : Option ((Int × Sty × Sty) ⊕ ((Sty × Sty) ⊕ (Int × Sty))) :=
     bif (decide (z8.1 < (((List.length r1) : Nat) : Int))) then (((Go.Lf.idx r1 z8.1)).bind fun r9 =>
       bif (decide ((r9 : List (UInt8)) = CLR)) then ((Go.Lf.sub r1 (Go.IntKind.wrap .i64 (z8.1 + (1 : Int))) (((List.length r1) : Nat) : Int))).bind fun r10 =>
       ((Go.Fn.style_color r10)).bind fun r11 =>
       (bif (!(!r11.2)) then some ((decide ((z8.2.2.2.2.1.2.2.1 : Int) ≠ (-(1 : Int)))), (z8.2.1, z8.2.2))
         else some (true, (z8.2.1, z8.2.2))).bind fun r12 =>
       bif r12.1 then some (.inl ((67 : Int), (([] : List (UInt8)), (([] : List (UInt8)), (((0 : Int), ((0 : Int), ((0 : Int), ()))), ())))))
       else some (.inr ((Go.IntKind.wrap .i64 (z8.1 + (1 : Int))), (r12.2.1, (r12.2.2.1, (r12.2.2.2.1, ((r12.2.2.2.2.1.1, (r12.2.2.2.2.1.2.1, (r11.1, r12.2.2.2.2.1.2.2.2))), r12.2.2.2.2.2))))))
       else ((Go.Lf.idx r1 z8.1)).bind fun r13 =>
       ((Go.Fn.style_attribute z8.2.2 r13)).bind fun r14 =>
       bif (!r14.1) then some (.inl ((67 : Int), (([] : List (UInt8)), (([] : List (UInt8)), (((0 : Int), ((0 : Int), ((0 : Int), ()))), ())))))
       else some (.inr (z8.1, (z8.2.1, r14.2))) : Option (((Int) × ((List (UInt8)) × ((List (UInt8)) × (((Int) × ((Int) × ((Int) × (Unit)))) × (Unit))))) ⊕ ((Int) × (((List (UInt8)) × ((List (UInt8)) × (((Int) × ((Int) × ((Int) × (Unit)))) × (Unit)))) × ((List (UInt8)) × ((List (UInt8)) × (((Int) × ((Int) × ((Int) × (Unit)))) × (Unit)))))))).bind fun r15 =>
     Go.Lf.onSum r15 (fun a16 =>
     some (.inr (.inr (a16.1, a16.2)))) (fun b17 =>
     some (.inl ((Go.IntKind.wrap .i64 (b17.1 + (1 : Int))), (b17.2.1, b17.2.2))))
     else some (.inr (.inl (z8.2.1, z8.2.2)))
theorem s_end (ws : List Bs) (B : Int × Sty × Sty → Option ((Int × Sty × Sty) ⊕ ((Sty × Sty) ⊕ (Int × Sty)))) (hB : ∀ z, B z = sB ws z) (z0 st : Sty) : loopC B (((ws.length : Nat) : Int), z0, st) = some (.inl (z0, st)) := by
  rw [loopC_step, hB]
  simp [sB]
theorem s_loop (ws : List Bs) (hw : ∀ x ∈ ws, x ≠ [] ∧ x.length ≤ 4096) (hn : ws.length ≤ 4096) (B : Int × Sty × Sty → Option ((Int × Sty × Sty) ⊕ ((Sty × Sty) ⊕ (Int × Sty)))) (hB : ∀ z, B z = sB ws z) (z0 : Sty) : ∀ (n m i : Nat) (st : Sty), m ≤ n → i + m = ws.length →
    loopC B ((i : Int), z0, st) = some (match pw false st (ws.drop i) with | some st' => .inl (z0, st') | none => .inr (67, zs)) := fun n => by
  induction n with
  | zero =>
    intro m i st hm hi
    have hi : i = ws.length := by omega
    subst hi
    rw [s_end ws B hB, List.drop_length]; rfl
  | succ n ih =>
    intro m i st hm hi
    by_cases hz : m = 0
    · have hi : i = ws.length := by omega
      subst hi
      rw [s_end ws B hB, List.drop_length]; rfl
    · have hlt : i < ws.length := by omega
      have hg : ws[i]? = some ws[i] := List.getElem?_eq_getElem hlt
      have e1 : (i : Int) < ((ws.length : Nat) : Int) := by omega
      obtain ⟨hne, hlen⟩ := hw ws[i] (List.getElem_mem hlt)
      have hsub : sub ws ((i + 1 : Nat) : Int) ((ws.length : Nat) : Int) = some (ws.drop (i + 1)) := by
        rw [sub_nat (by omega) (by omega), List.take_of_length_le (by simp)]
      rw [loopC_step, hB, List.drop_eq_getElem_cons hlt]
      unfold sB pw
      simp only [e1, decide_true, cond_true, idx_nat, hg, Option.bind_some]
      rw [wrapS (by omega)]
      by_cases hc : ws[i] = COLOR
      · rw [if_pos hc]
        simp only [hc, decide_true, cond_true, hsub, Option.bind_some]
        by_cases h2 : i + 1 < ws.length
        · obtain ⟨_, hlen2⟩ := hw ws[i + 1] (List.getElem_mem h2)
          obtain ⟨k, hk1, hk2⟩ := scolor_eq ws[i + 1] (ws.drop (i + 1 + 1)) (by omega)
          rw [List.drop_eq_getElem_cons h2, hk1]
          unfold pw
          simp only [Option.bind_some]
          cases hcs : colS ws[i + 1] with
          | none => simp [onSum, zs]
          | some c =>
            have := hk2 c hcs
            subst this
            by_cases hm1 : st.2.2.1.2.2.1 = -1
            · simp only [hm1, Option.isSome_some, Bool.not_true, Bool.not_false, cond_true, ne_eq, not_true_eq_false, decide_false, Option.bind_some, cond_false, onSum, if_true]
              rw [wrapS (by omega), ih (m - 2) (i + 1 + 1) _ (by omega) (by omega)]
            · simp [hm1, onSum, zs]
        · rw [List.drop_eq_nil_of_le (by omega), scolor_nil]
          simp [onSum, zs, pw]
      · rw [if_neg hc]
        have hc' : decide (ws[i] = CLR) = false := decide_eq_false hc
        simp only [hc', cond_false]
        cases hw1 : ws[i] with
        | nil => exact absurd hw1 hne
        | cons s a =>
          rw [hw1] at hlen
          rw [attr_eq st s a (by simp only [List.length_cons] at hlen; omega)]
          cases attrS st.2.2.1 (s :: a) with
          | none => simp [onSum, zs]
          | some c =>
            simp only [Option.bind_some, Bool.not_true, cond_false, onSum]
            rw [wrapS (by omega), ih (m - 1) (i + 1) _ (by omega) (by omega)]
def parse (s : Bs) : Sty × Int :=
  if 4096 < s.length then (zs, 2)
  else match sp [] [] s with
    | [] => (zs, 67)
    | w :: r => if (nm w).2.2 then match pw false ((nm w).1, (nm w).2.1, (0, 0, -1, ()), ()) r with | some st => (st, 0) | none => (zs, 67) else (zs, 67)
theorem sparse_eq (s : Bs) : style_Parse s = some (parse s) := by
  unfold style_Parse parse
  by_cases h0 : 4096 < s.length
  · have : (4096 : Int) < ((s.length : Nat) : Int) := by omega
    simp [this, h0, zs]
  · have h1 : ¬ (4096 : Int) < ((s.length : Nat) : Int) := by omega
    rw [if_neg h0]
    simp only [h1, decide_false, cond_false, fields_eq s (by omega), Option.bind_some]
    have hw := sp_words s [] [] 4096 (fun x h => by cases h) (by simp; omega)
    have hn : (sp [] [] s).length ≤ 4096 := by have := sp_len s [] []; simp at this; omega
    revert hw hn
    generalize sp [] [] s = ws
    intro hw hn
    cases ws with
    | nil => simp [zs]
    | cons w r =>
      obtain ⟨hne, hlen⟩ := hw w List.mem_cons_self
      have h2 : ¬ (((w :: r).length : Nat) : Int) = 0 := by simp only [List.length_cons]; omega
      have h3 : idx (w :: r) 0 = some w := rfl
      have hl := fun z0 st => s_loop (w :: r) hw hn (sB (w :: r)) (fun _ => rfl) z0 r.length r.length 1 st (Nat.le_refl _) (by simp only [List.length_cons]; omega)
      have hl : ∀ z0 st, loopC (sB (w :: r)) ((1 : Int), z0, st) = some (match pw false st r with | some st' => .inl (z0, st') | none => .inr (67, zs)) := fun z0 st => hl z0 st
      simp only [h2, decide_false, cond_false, h3, Option.bind_some]
      have hcut : strings_Cut w [58] = some (match p58 w with | none => (w, [], false) | some i => (w.take i, w.drop (i + 1), true)) := by
        unfold strings_Cut
        rw [if_pos (by omega), cut58]
        all_goals (cases p58 w <;> rfl)
      rw [hcut, plain_eq]
      unfold nm
      have fin : ∀ (a b : Bs), (loopC (sB (w :: r)) ((1 : Int), (([], [], (0, 0, 0, ()), ()) : Sty), ((a, b, (0, 0, -1, ()), ()) : Sty))).bind (fun r18 => onSum r18 (fun a19 => some (a19.2, (0 : Int))) (fun b20 => some (b20.2, b20.1))) = some (match pw false (a, b, (0, 0, -1, ()), ()) r with | some st => (st, 0) | none => (zs, 67)) := fun a b => by
        rw [hl]
        cases pw false (a, b, (0, 0, -1, ()), ()) r <;> rfl
      cases hp : p58 w with
      | none =>
        simp only [Option.bind_some, named_eq w (by omega)]
        cases hk : okName w with
        | false => rfl
        | true => exact fin w []
      | some i =>
        simp only [Option.bind_some, named_eq (w.take i) (by simp; omega), named_eq (w.drop (i + 1)) (by simp; omega)]
        cases hk : okName (w.take i) with
        | false => rfl
        | true =>
          cases hk2 : okName (w.drop (i + 1)) with
          | false => rfl
          | true => exact fin (w.take i) (w.drop (i + 1))
end Go.Fn

namespace Go.Fn
open Go Go.Lf

noncomputable def rB (r1 : List Bs) (z5 : Int × Bool × Sty × Sty) : Option ((Int × Bool × Sty × Sty) ⊕ (Bool × Sty × Sty)) :=
     (bif (decide (z5.1 < (((List.length r1) : Nat) : Int))) then some (z5.2.1, (z5.2.2.1, z5.2.2.2))
       else some (false, (z5.2.2.1, z5.2.2.2))).bind fun r6 =>
     bif r6.1 then (((Go.Lf.idx r1 z5.1)).bind fun r7 =>
       bif (decide ((r7 : List (UInt8)) = CLR)) then (bif (decide ((r6.2.1.2.2.1.2.2.1 : Int) = (-(1 : Int)))) then some ((decide ((Go.IntKind.wrap .i64 (z5.1 + (1 : Int))) < (((List.length r1) : Nat) : Int))), (r6.2.1, r6.2.2))
         else some (false, (r6.2.1, r6.2.2))).bind fun r8 =>
       (bif r8.1 then ((Go.Lf.idx r1 (Go.IntKind.wrap .i64 (z5.1 + (1 : Int))))).bind fun r9 =>
         ((Go.Fn.folioref06_color r9)).bind fun r10 =>
         some (r10.2, (r10.1, (r8.2.1, r8.2.2)))
         else some (r8.1, ((0 : Int), (r8.2.1, r8.2.2)))).bind fun r11 =>
       some (r11.1, ((Go.IntKind.wrap .i64 (z5.1 + (1 : Int))), ((r11.2.2.1.1, (r11.2.2.1.2.1, ((r11.2.2.1.2.2.1.1, (r11.2.2.1.2.2.1.2.1, (r11.2.1, r11.2.2.1.2.2.1.2.2.2))), r11.2.2.1.2.2.2))), r11.2.2.2)))
       else (((Go.Lf.idx r1 z5.1)).bind fun r12 =>
         ((Go.Lf.idx r12 (0 : Int))).bind fun r13 =>
         bif (!(decide (((((UInt8.toNat r13) : Nat) : Int) : Int) = (43 : Int)))) then ((Go.Lf.idx r1 z5.1)).bind fun r14 =>
         ((Go.Lf.idx r14 (0 : Int))).bind fun r15 =>
         some ((decide (((((UInt8.toNat r15) : Nat) : Int) : Int) = (45 : Int))), (r6.2.1, r6.2.2))
         else some (true, (r6.2.1, r6.2.2))).bind fun r16 =>
       bif r16.1 then ((Go.Lf.idx r1 z5.1)).bind fun r17 =>
       ((Go.Lf.sub r17 (1 : Int) (((List.length r17) : Nat) : Int))).bind fun r18 =>
       ((Go.Fn.folioref06_bit r18)).bind fun r19 =>
       (bif (decide ((r19 : Int) ≠ (0 : Int))) then some ((decide (((Go.Lf.bits .and .i64 (Go.Lf.bits .or .i64 r16.2.1.2.2.1.1 r16.2.1.2.2.1.2.1) r19) : Int) = (0 : Int))), (r16.2.1, r16.2.2))
         else some (false, (r16.2.1, r16.2.2))).bind fun r20 =>
       ((Go.Lf.idx r1 z5.1)).bind fun r21 =>
       ((Go.Lf.idx r21 (0 : Int))).bind fun r22 =>
       bif (decide (((((UInt8.toNat r22) : Nat) : Int) : Int) = (43 : Int))) then some (r20.1, (z5.1, ((r20.2.1.1, (r20.2.1.2.1, (((Go.Lf.bits .or .i64 r20.2.1.2.2.1.1 r19), r20.2.1.2.2.1.2), r20.2.1.2.2.2))), r20.2.2)))
       else some (r20.1, (z5.1, ((r20.2.1.1, (r20.2.1.2.1, ((r20.2.1.2.2.1.1, ((Go.Lf.bits .or .i64 r20.2.1.2.2.1.2.1 r19), r20.2.1.2.2.1.2.2)), r20.2.1.2.2.2))), r20.2.2)))
       else some (false, (z5.1, (r16.2.1, r16.2.2)))).bind fun r23 =>
     some (.inl ((Go.IntKind.wrap .i64 (r23.2.1 + (1 : Int))), (r23.1, (r23.2.2.1, r23.2.2.2))))
     else some (.inr (z5.2.1, (r6.2.2, r6.2.1)))
/-- an attribute's word, by the second way -/
theorem attrS_bit (on off : Int) (col : Int) (s : UInt8) (a : Bs) : attrS (on, off, col, ()) (s :: a) = match at7 0 W7 a with
    | none => none
    | some i => if Go.Lf.bits .and .i64 (Go.Lf.bits .or .i64 on off) (2 ^ i : Int) = 0 then
        (if s.toNat = 43 then some (Go.Lf.bits .or .i64 on (2 ^ i : Int), off, col, ()) else if s.toNat = 45 then some (on, Go.Lf.bits .or .i64 off (2 ^ i : Int), col, ()) else none) else none := by
  unfold attrS
  dsimp only
  cases h : at7 0 W7 a with
  | none => rfl
  | some i =>
    dsimp only
    have hi : i < 7 := (at7_lt W7 0 a i h).2
    have := and_pow (BitVec.ofInt 64 on ||| BitVec.ofInt 64 off) i hi
    rw [bits_or on off]
    cases hb : (BitVec.ofInt 64 on ||| BitVec.ofInt 64 off).getLsbD i with
    | true =>
      have h2 := mt this.1 (by rw [hb]; simp)
      simp only [h2, if_true, if_false]
    | false =>
      have h2 := this.2 hb
      simp only [h2, Bool.false_eq_true, if_true, if_false]
theorem pow7 : ∀ i : Nat, i < 7 → (2 ^ i : Int) ≠ 0 := lt7 (by decide) (by decide) (by decide) (by decide) (by decide) (by decide) (by decide)
section
variable (ws : List Bs) (B : Int × Bool × Sty × Sty → Option ((Int × Bool × Sty × Sty) ⊕ (Bool × Sty × Sty))) (hB : ∀ z, B z = rB ws z)
include hB
theorem r_end (ok : Bool) (st z0 : Sty) : loopC B (((ws.length : Nat) : Int), ok, st, z0) = some (ok, z0, st) := by
  rw [loopC_step, hB]
  simp [rB]
theorem r_bad (i : Int) (st z0 : Sty) : loopC B (i, false, st, z0) = some (false, z0, st) := by
  rw [loopC_step, hB]
  unfold rB
  by_cases h : i < ((ws.length : Nat) : Int) <;> simp [h]
theorem r_loop (hw : ∀ x ∈ ws, x ≠ [] ∧ x.length ≤ 4096) (hn : ws.length ≤ 4096) (z0 : Sty) : ∀ (n m i : Nat) (st : Sty), m ≤ n → i + m = ws.length →
    ∃ r, loopC B ((i : Int), true, st, z0) = some r ∧ (match pw false st (ws.drop i) with | some st' => r = (true, z0, st') | none => r.1 = false) := fun n => by
  induction n with
  | zero =>
    intro m i st hm hi
    have hi : i = ws.length := by omega
    subst hi
    rw [r_end ws B hB, List.drop_length]
    exact ⟨_, rfl, rfl⟩
  | succ n ih =>
    intro m i st hm hi
    by_cases hz : m = 0
    · have hi : i = ws.length := by omega
      subst hi
      rw [r_end ws B hB, List.drop_length]
      exact ⟨_, rfl, rfl⟩
    · have hlt : i < ws.length := by omega
      have hg : ws[i]? = some ws[i] := List.getElem?_eq_getElem hlt
      have e1 : (i : Int) < ((ws.length : Nat) : Int) := by omega
      obtain ⟨hne, hlen⟩ := hw ws[i] (List.getElem_mem hlt)
      rw [loopC_step, hB, List.drop_eq_getElem_cons hlt]
      unfold rB pw
      simp only [e1, decide_true, cond_true, idx_nat, hg, Option.bind_some]
      rw [wrapS (by omega)]
      by_cases hc : ws[i] = COLOR
      · rw [if_pos hc]
        simp only [hc, decide_true, cond_true, Option.bind_some]
        by_cases h2 : i + 1 < ws.length
        · have e2 : (((i + 1 : Nat) : Int) < ((ws.length : Nat) : Int)) := by omega
          rw [List.drop_eq_getElem_cons h2]
          unfold pw
          by_cases hm1 : st.2.2.1.2.2.1 = -1
          · simp only [hm1, decide_true, cond_true, Option.bind_some, e2, idx_nat, List.getElem?_eq_getElem h2, rcolor_eq]
            cases hcs : colS ws[i + 1] with
            | none =>
              simp only []
              rw [r_bad ws B hB]
              exact ⟨_, rfl, rfl⟩
            | some c =>
              simp only [if_true]
              rw [wrapS (by omega)]
              exact ih (m - 2) (i + 1 + 1) _ (by omega) (by omega)
          · simp only [hm1, decide_false, cond_false, Option.bind_some]
            rw [r_bad ws B hB]
            cases hcs : colS ws[i + 1] with
            | none => exact ⟨_, rfl, rfl⟩
            | some c => exact ⟨_, rfl, rfl⟩
        · have e2 : ¬ (((i + 1 : Nat) : Int) < ((ws.length : Nat) : Int)) := by omega
          rw [List.drop_eq_nil_of_le (by omega)]
          unfold pw
          by_cases hm1 : st.2.2.1.2.2.1 = -1
          · simp only [hm1, decide_true, decide_false, cond_true, cond_false, Option.bind_some, e2]
            rw [r_bad ws B hB]
            exact ⟨_, rfl, rfl⟩
          · simp only [hm1, decide_false, cond_false, Option.bind_some]
            rw [r_bad ws B hB]
            exact ⟨_, rfl, rfl⟩
      · rw [if_neg hc]
        have hc' : decide (ws[i] = CLR) = false := decide_eq_false hc
        simp only [hc', cond_false]
        cases hw1 : ws[i] with
        | nil => exact absurd hw1 hne
        | cons s a =>
          have h0 : idx (s :: a) 0 = some s := rfl
          have hsub : sub (s :: a) 1 (((s :: a).length : Nat) : Int) = some a := by
            have := sub_nat (l := s :: a) (a := 1) (b := (s :: a).length) (by simp) (Nat.le_refl _)
            simpa using this
          obtain ⟨nm, bs, ⟨on, off, col, ⟨⟩⟩, ⟨⟩⟩ := st
          rw [attrS_bit]
          simp only [h0, hsub, Option.bind_some, rbit_eq]
          have bad : ∀ (x : Option ((Int × Bool × Sty × Sty) ⊕ (Bool × Sty × Sty))) (j : Int) (s' : Sty), x = some (.inl (j, false, s', z0)) → ∃ r, (x.bind fun | .inl z' => loopC B z' | .inr k => some k) = some r ∧ r.1 = false := fun x j s' hx => by
            subst hx
            exact ⟨_, r_bad ws B hB j s' z0, rfl⟩
          by_cases h43 : s.toNat = 43
          · have g43 : (((s.toNat : Nat) : Int) = 43) = True := eq_true (by omega)
            have p43 : (s.toNat = 43) = True := eq_true h43
            simp only [g43, decide_true, Bool.not_true, cond_false, cond_true, Option.bind_some, p43, if_true]
            cases h7 : at7 0 W7 a with
            | none => exact bad _ _ _ rfl
            | some k =>
              have hp := pow7 k (at7_lt W7 0 a k h7).2
              by_cases hb : Go.Lf.bits .and .i64 (Go.Lf.bits .or .i64 on off) (2 ^ k : Int) = 0
              · simp only [hp, hb, ne_eq, not_false_eq_true, decide_true, cond_true, Option.bind_some, if_true]
                rw [wrapS (by omega)]
                exact ih (m - 1) (i + 1) _ (by omega) (by omega)
              · simp only [hp, hb, ne_eq, not_false_eq_true, decide_true, decide_false, cond_true, Option.bind_some, if_false]
                exact bad _ _ _ rfl
          · have g43 : ¬ ((s.toNat : Nat) : Int) = 43 := by omega
            by_cases h45 : s.toNat = 45
            · have g45 : (((s.toNat : Nat) : Int) = 45) = True := eq_true (by omega)
              have p45 : (s.toNat = 45) = True := eq_true h45
              simp only [g43, g45, decide_true, decide_false, Bool.not_false, cond_false, cond_true, Option.bind_some, h43, p45, if_true, if_false]
              cases h7 : at7 0 W7 a with
              | none => exact bad _ _ _ rfl
              | some k =>
                have hp := pow7 k (at7_lt W7 0 a k h7).2
                by_cases hb : Go.Lf.bits .and .i64 (Go.Lf.bits .or .i64 on off) (2 ^ k : Int) = 0
                · simp only [hp, hb, ne_eq, not_false_eq_true, decide_true, cond_true, Option.bind_some, if_true]
                  rw [wrapS (by omega)]
                  exact ih (m - 1) (i + 1) _ (by omega) (by omega)
                · simp only [hp, hb, ne_eq, not_false_eq_true, decide_true, decide_false, cond_true, Option.bind_some, if_false]
                  exact bad _ _ _ rfl
            · have g45 : ¬ ((s.toNat : Nat) : Int) = 45 := by omega
              simp only [g43, g45, decide_false, Bool.not_false, cond_false, cond_true, Option.bind_some, h43, h45, if_false]
              have h2 : (match at7 0 W7 a with | none => none | some i => if Go.Lf.bits .and .i64 (Go.Lf.bits .or .i64 on off) (2 ^ i : Int) = 0 then (none : Option Chg) else none) = none := by
                cases at7 0 W7 a with
                | none => rfl
                | some k => simp
              rw [h2]
              exact bad _ _ _ rfl
end
theorem rparse_eq (s : Bs) : folioref06_Parse s = some (parse s) := by
  unfold folioref06_Parse parse
  by_cases h0 : 4096 < s.length
  · have : (4096 : Int) < ((s.length : Nat) : Int) := by omega
    simp [this, h0, zs]
  · have h1 : ¬ (4096 : Int) < ((s.length : Nat) : Int) := by omega
    rw [if_neg h0]
    simp only [h1, decide_false, cond_false, rwords_loop s (by omega), Option.bind_some]
    have hw := sp_words s [] [] 4096 (fun x h => by cases h) (by simp; omega)
    have hn : (sp [] [] s).length ≤ 4096 := by have := sp_len s [] []; simp at this; omega
    revert hw hn
    generalize sp [] [] s = ws
    intro hw hn
    cases ws with
    | nil => simp [zs]
    | cons w r =>
      obtain ⟨hne, hlen⟩ := hw w List.mem_cons_self
      have h2 : ¬ (((w :: r).length : Nat) : Int) = 0 := by simp only [List.length_cons]; omega
      have h3 : idx (w :: r) 0 = some w := rfl
      simp only [h2, decide_false, cond_false, h3, Option.bind_some, none_eq, rnames_eq w hlen]
      have fin : ∀ (a b : Bs) (k : Bool), (loopC (rB (w :: r)) ((1 : Int), k, ((a, b, (0, 0, -1, ()), ()) : Sty), (([], [], (0, 0, 0, ()), ()) : Sty))).bind (fun r24 => bif (!r24.1) then some ((([] : List (UInt8)), (([] : List (UInt8)), (((0 : Int), ((0 : Int), ((0 : Int), ()))), ()))), (67 : Int))
         else some (r24.2.2, (0 : Int))) = some ((if k then (match pw false (a, b, (0, 0, -1, ()), ()) r with | some st => (st, 0) | none => (zs, 67)) else (zs, 67)) : Sty × Int) := fun a b k => by
        cases k with
        | false => rw [r_bad (w :: r) (rB (w :: r)) (fun _ => rfl)]; rfl
        | true =>
          obtain ⟨x, hx1, hx2⟩ := r_loop (w :: r) (rB (w :: r)) (fun _ => rfl) hw hn ([], [], (0, 0, 0, ()), ()) r.length r.length 1 (a, b, (0, 0, -1, ()), ()) (Nat.le_refl _) (by simp only [List.length_cons]; omega)
          have hx1 : loopC (rB (w :: r)) ((1 : Int), true, ((a, b, (0, 0, -1, ()), ()) : Sty), (([], [], (0, 0, 0, ()), ()) : Sty)) = some x := hx1
          rw [hx1]
          have hx2 : (match pw false (a, b, (0, 0, -1, ()), ()) r with | some st' => x = (true, ([], [], (0, 0, 0, ()), ()), st') | none => x.1 = false) := hx2
          cases hp : pw false (a, b, (0, 0, -1, ()), ()) r with
          | none =>
            rw [hp] at hx2
            have hx2 : x.1 = false := hx2
            simp [hx2, zs]
          | some st' =>
            rw [hp] at hx2
            have hx2 : x = _ := hx2
            rw [hx2]; rfl
      exact fin (nm w).1 (nm w).2.1 (nm w).2.2
end Go.Fn

namespace Go.Fn
open Go Go.Lf

theorem andNot_zero {n : Int} (h0 : 0 ≤ n) (h1 : n ≤ 9223372036854775807) : Go.Lf.bits .andNot .i64 n 127 = 0 ↔ n ≤ 127 := by
  rw [bits_andNot, num_zero, show BitVec.ofInt 64 127 = 127#64 by decide]
  have hx : ((BitVec.ofInt 64 n).toNat : Int) = n := by simp [BitVec.toNat_ofInt]; omega
  have hb : ∀ i, (127#64).getLsbD i = decide (i < 7) := fun i => by
    rw [← BitVec.testBit_toNat, show (127#64).toNat = 2 ^ 7 - 1 by decide, Nat.testBit_two_pow_sub_one]
  revert hx
  generalize BitVec.ofInt 64 n = X
  intro hx
  constructor
  · intro h
    have : X.toNat < 2 ^ 7 := Nat.lt_pow_two_of_testBit _ fun i hi => by
      rw [BitVec.testBit_toNat]
      by_cases h64 : i < 64
      · have h2 := congrArg (fun x : BitVec 64 => x.getLsbD i) h
        have h3 : ¬ i < 7 := by omega
        simp only [BitVec.getLsbD_and, BitVec.getLsbD_not, hb, h3, h64, decide_true, decide_false, Bool.not_false, Bool.and_true, BitVec.getLsbD_zero, Bool.true_and] at h2
        exact h2
      · exact BitVec.getLsbD_of_ge _ _ (by omega)
    omega
  · intro h
    apply BitVec.eq_of_getLsbD_eq
    intro i hi
    rw [BitVec.getLsbD_and, BitVec.getLsbD_not, hb]
    by_cases h7 : i < 7
    · simp [h7]
    · have : X.getLsbD i = false := by
        rw [← BitVec.testBit_toNat]
        exact Nat.testBit_lt_two_pow (Nat.lt_of_lt_of_le (show X.toNat < 2 ^ 7 by omega) (Nat.pow_le_pow_right (by omega) (by omega)))
      simp [this]
def chgS (c : Chg) : Int :=
  if 0 ≤ c.1 ∧ c.1 ≤ 127 ∧ 0 ≤ c.2.1 ∧ c.2.1 ≤ 127 ∧ Go.Lf.bits .and .i64 c.1 c.2.1 = 0 then (if -1 ≤ c.2.2.1 ∧ c.2.2.1 ≤ 15 then 0 else 63) else 62
theorem col_eq (n : Int) : (bif (!(decide (n < (-(1 : Int))))) then some (decide ((15 : Int) < n)) else some true : Option Bool).bind (fun r2 => bif r2 then some (63 : Int) else some (0 : Int)) = some (if -1 ≤ n ∧ n ≤ 15 then 0 else 63) := by
  by_cases h1 : n < -1
  · have : ¬ -1 ≤ n := by omega
    simp [h1, this]
  · have g1 : -1 ≤ n := by omega
    by_cases h2 : (15 : Int) < n
    · have : ¬ n ≤ 15 := by omega
      simp [h1, h2, this]
    · have g2 : n ≤ 15 := by omega
      simp [h1, h2, g1, g2]
theorem change_eq (c : Chg) (hf : Fits c.1 ∧ Fits c.2.1) : style_change c = some (chgS c) := by
  obtain ⟨on, off, col, ⟨⟩⟩ := c
  unfold style_change chgS
  dsimp only
  have hc := col_eq col
  have e2 : IntKind.i64.max = 9223372036854775807 := by decide
  have h10 := hf.1.2
  have h20 := hf.2.2
  dsimp only at h10 h20
  rw [e2] at h10 h20
  by_cases h1 : on < 0
  · have g : ¬ 0 ≤ on := by omega
    by_cases a1 : Go.Lf.bits .andNot .i64 on 127 = 0 <;> by_cases a2 : Go.Lf.bits .andNot .i64 off 127 = 0 <;> simp [a1, a2, h1, g]
  · have g1 : 0 ≤ on := by omega
    have k1 := andNot_zero g1 h10
    by_cases h2 : off < 0
    · have g : ¬ 0 ≤ off := by omega
      by_cases a1 : Go.Lf.bits .andNot .i64 on 127 = 0 <;> by_cases a2 : Go.Lf.bits .andNot .i64 off 127 = 0 <;> simp [a1, a2, h1, h2, g]
    · have g2 : 0 ≤ off := by omega
      have k2 := andNot_zero g2 h20
      by_cases h3 : on ≤ 127
      · by_cases h4 : off ≤ 127
        · have a1 := k1.2 h3
          have a2 := k2.2 h4
          by_cases h5 : Go.Lf.bits .and .i64 on off = 0
          · simp only [h1, h2, h3, h4, h5, a1, a2, g1, g2, decide_false, Bool.not_false, cond_true, ne_eq, not_true_eq_false, Option.bind_some, cond_false, and_self, if_true]
            exact hc
          · simp [h1, h2, h5, a1, a2]
        · have a2 := mt k2.1 h4
          by_cases a1 : Go.Lf.bits .andNot .i64 on 127 = 0 <;> simp [a1, a2, h4]
      · have a1 := mt k1.1 h3
        simp [a1, h3]

/-- the words of the bits that are set -/
def bitsW (bit : Nat → Bool) (sg : Bs) : Nat → List Bs → Bs
  | _, [] => []
  | i, x :: r => (if bit i then sg ++ x else []) ++ bitsW bit sg (i + 1) r
theorem bitsW_cons (bit : Nat → Bool) (sg : Bs) (i : Nat) (x : Bs) (r : List Bs) : bitsW bit sg i (x :: r) = (if bit i then sg ++ x else []) ++ bitsW bit sg (i + 1) r := rfl
theorem bitsW_len (bit : Nat → Bool) (sg : Bs) : ∀ (l : List Bs) (i : Nat), (∀ x ∈ l, x.length ≤ 7) → (bitsW bit sg i l).length ≤ l.length * (sg.length + 7)
  | [], i, _ => by simp [bitsW]
  | x :: r, i, h => by
    have ih := bitsW_len bit sg r (i + 1) fun y hy => h y (List.mem_cons_of_mem _ hy)
    have h1 := h x List.mem_cons_self
    unfold bitsW
    rw [List.length_append, List.length_cons, Nat.succ_mul]
    split
    · rw [List.length_append]; omega
    · simp only [List.length_nil]; omega
theorem W7_len : ∀ x ∈ W7, x.length ≤ 7 := by decide
theorem word_loop {S K : Type} (mk : Int → Bs → S) (fin : Bs → K) (B : S → Option (S ⊕ K)) (bit : Nat → Bool) (sg : Bs)
    (h1 : ∀ (i : Nat) (x b : Bs), W7[i]? = some x → b.length ≤ 4096 → B (mk (i : Int) b) = some (.inl (mk ((i + 1 : Nat) : Int) (if bit i then b ++ (sg ++ x) else b))))
    (h2 : ∀ b, B (mk 7 b) = some (.inr (fin b))) : ∀ (m i : Nat) (b : Bs), i + m = 7 → b.length + m * (sg.length + 7) ≤ 4096 → loopC B (mk (i : Int) b) = some (fin (b ++ bitsW bit sg i (W7.drop i)))
  | 0, i, b, hi, hb => by
    have : i = 7 := by omega
    subst this
    rw [loopC_step, show ((7 : Nat) : Int) = 7 from rfl, h2, show W7.drop 7 = [] from rfl]
    simp [bitsW]
  | m + 1, i, b, hi, hb => by
    have hlt : i < W7.length := by show i < 7; omega
    have hx := W7_len W7[i] (List.getElem_mem hlt)
    rw [Nat.succ_mul] at hb
    rw [loopC_step, h1 i W7[i] b (List.getElem?_eq_getElem hlt) (by omega), List.drop_eq_getElem_cons hlt]
    simp only [Option.bind_some]
    rw [word_loop mk fin B bit sg h1 h2 m (i + 1) _ (by omega) (by
      split
      · simp only [List.length_append]; omega
      · omega)]
    congr 2
    rw [bitsW_cons]
    split <;> simp [List.append_assoc]
def bitN (n : Int) (i : Nat) : Bool := (BitVec.ofInt 64 n).getLsbD i
theorem u64_at : ∀ i : Nat, i < 7 → IntKind.wrap .u64 (i : Int) = (i : Int) := lt7 (by decide) (by decide) (by decide) (by decide) (by decide) (by decide) (by decide)
theorem bitN_at {n : Int} (hn : Fits n) {i : Nat} (hi : i < 7) : decide (Go.Lf.bits .and .i64 (Int.fdiv n ((2 : Int) ^ (Min.min (Int.toNat (i : Int)) (64 : Nat)))) 1 = 1) = bitN n i := by
  have h := bit_at (BitVec.ofInt 64 n) i hi
  rw [num_of hn] at h
  unfold bitN
  cases hb : (BitVec.ofInt 64 n).getLsbD i with
  | true => exact decide_eq_true (h.2 hb)
  | false => exact decide_eq_false (mt h.1 (by rw [hb]; simp))
theorem nn_at {i : Nat} (x : Int) : nn (i : Int) x = some x := if_neg (by omega)
theorem okName_len {s : Bs} (h : okName s = true) : s.length ≤ 12 := by
  unfold okName at h
  simp at h
  exact h.1.2
theorem itoa_len : ∀ n : Nat, n < 16 → (Lib.itoa (n : Int)).length ≤ 2 := by
  have h : ((List.range 16).all fun n => Nat.ble (Lib.itoa (n : Int)).length 2) = true := by kernel_rfl
  intro n hn
  exact Nat.le_of_ble_eq_true (List.all_eq_true.1 h n (List.mem_range.2 hn))
abbrev SPCOLOR : Bs := [32, 99, 111, 108, 111, 114, 32]
def writeS (st : Sty) : Bs × Int :=
  if okName st.1 = false then ([], 60)
  else if chgS st.2.2.1 ≠ 0 then ([], chgS st.2.2.1)
  else if st.2.1 ≠ [] ∧ okName st.2.1 = false then ([], 64)
  else ((st.1 ++ (if st.2.1 = [] then [] else 58 :: st.2.1)) ++ bitsW (bitN st.2.2.1.1) [32, 43] 0 W7 ++ bitsW (bitN st.2.2.1.2.1) [32, 45] 0 W7 ++ (if st.2.2.1.2.2.1 = -1 then [] else SPCOLOR ++ Lib.itoa st.2.2.1.2.2.1), 0)
def lim : Nat := 140737488351232
theorem chgS_zero {c : Chg} (h : chgS c = 0) : -1 ≤ c.2.2.1 ∧ c.2.2.1 ≤ 15 := by
  unfold chgS at h
  split at h
  · split at h
    · assumption
    · omega
  · omega
theorem itoaC {n : Int} (h0 : -1 ≤ n) (h1 : n ≤ 15) (h2 : n ≠ -1) : strconv_Itoa n = some (Lib.itoa n) ∧ (Lib.itoa n).length ≤ 2 := by
  constructor
  · unfold strconv_Itoa; rw [if_pos (by omega)]
  · have := itoa_len n.toNat (by omega)
    rwa [Int.toNat_of_nonneg (by omega)] at this
end Go.Fn

namespace Go.Fn
open Go Go.Lf

theorem bits7 (bit : Nat → Bool) (sg : Bs) (hs : sg.length ≤ 2) : (bitsW bit sg 0 W7).length ≤ 63 := by
  have := bitsW_len bit sg W7 0 W7_len
  have e : W7.length = 7 := rfl
  rw [e] at this
  omega
noncomputable def iB (r9 : Bs) (r10 : Int) (z12 : Int × Bs × Sty) : Option ((Int × Bs × Sty) ⊕ (Bs × Sty)) :=
         bif (decide (z12.1 < (((List.length W7) : Nat) : Int))) then (((Go.Lf.idx W7 z12.1)).bind fun r13 =>
           ((Go.Lf.nn z12.1 (Int.fdiv r10 ((2 : Int) ^ (Min.min (Int.toNat z12.1) (64 : Nat)))))).bind fun r14 =>
           bif (decide (((Go.Lf.bits .and .i64 r14 (1 : Int)) : Int) = (1 : Int))) then ((Go.Lf.cat r9 r13)).bind fun r15 =>
           ((Go.Lf.cat z12.2.1 r15)).bind fun r16 =>
           some (r16, z12.2.2)
           else some (z12.2.1, z12.2.2)).bind fun r17 =>
         some (.inl ((Go.IntKind.wrap .i64 (z12.1 + (1 : Int))), (r17.1, r17.2)))
         else some (.inr (z12.2.1, z12.2.2))
theorem iB_eq (sg : Bs) (n : Int) (hn : Fits n) (hs : sg.length ≤ 2) (st : Sty) (b : Bs) (hb : b.length ≤ 1000) : loopC (iB sg n) ((0 : Int), b, st) = some (b ++ bitsW (bitN n) sg 0 W7, st) := by
  have h := word_loop (fun i b => (i, b, st)) (fun b => (b, st)) (iB sg n) (bitN n) sg (fun i x b hx hb => by
      have hlt : i < 7 := (List.getElem?_eq_some_iff.1 hx).1
      have hxl := W7_len x (List.mem_of_getElem? hx)
      have e1 : (i : Int) < ((W7.length : Nat) : Int) := by show (i : Int) < 7; omega
      unfold iB
      simp only [e1, decide_true, cond_true, nn_at, Option.bind_some, bitN_at hn hlt, idx_nat, hx]
      rw [wrapS (by omega)]
      cases bitN n i with
      | false => rfl
      | true =>
        rw [cat_of (by omega)]
        simp only [cond_true, Option.bind_some]
        rw [cat_of (by simp only [List.length_append]; omega)]
        simp) (fun b => by unfold iB; simp; rfl) 7 0 b rfl (by omega)
  exact h
end Go.Fn

namespace Go.Fn
open Go Go.Lf

theorem num_fits (X : BitVec 64) : Fits (num X) := by
  have h := X.isLt
  have e1 : IntKind.i64.min = -9223372036854775808 := by decide
  have e2 : IntKind.i64.max = 9223372036854775807 := by decide
  unfold Fits
  rw [num_val, e1, e2]
  split <;> omega
/-- a number of seven bits -/
theorem seven {n : Int} (h0 : 0 ≤ n) (h1 : n ≤ 127) : ∀ i, 7 ≤ i → (BitVec.ofInt 64 n).getLsbD i = false := fun i hi => by
  have hx : ((BitVec.ofInt 64 n).toNat : Int) = n := by simp [BitVec.toNat_ofInt]; omega
  rw [← BitVec.testBit_toNat]
  exact Nat.testBit_lt_two_pow (Nat.lt_of_lt_of_le (show (BitVec.ofInt 64 n).toNat < 2 ^ 7 by omega) (Nat.pow_le_pow_right (by omega) hi))
theorem seven_of (X : BitVec 64) (h : ∀ i, 7 ≤ i → X.getLsbD i = false) : 0 ≤ num X ∧ num X ≤ 127 := by
  have : X.toNat < 2 ^ 7 := Nat.lt_pow_two_of_testBit _ fun i hi => by rw [BitVec.testBit_toNat]; exact h i hi
  rw [num_val]
  split <;> omega
theorem fits127 {n : Int} (h0 : 0 ≤ n) (h1 : n ≤ 127) : Fits n := by
  have e1 : IntKind.i64.min = -9223372036854775808 := by decide
  have e2 : IntKind.i64.max = 9223372036854775807 := by decide
  unfold Fits
  rw [e1, e2]
  omega
theorem ofInt_pow : ∀ i : Nat, i < 7 → BitVec.ofInt 64 (2 ^ i : Int) = BitVec.twoPow 64 i := lt7 (by decide) (by decide) (by decide) (by decide) (by decide) (by decide) (by decide)
def Good (c : Chg) : Prop := (0 ≤ c.1 ∧ c.1 ≤ 127) ∧ (0 ≤ c.2.1 ∧ c.2.1 ≤ 127) ∧ (BitVec.ofInt 64 c.1 &&& BitVec.ofInt 64 c.2.1) = 0#64 ∧ -1 ≤ c.2.2.1 ∧ c.2.2.1 ≤ 15
theorem good_chg {c : Chg} : Good c ↔ chgS c = 0 := by
  have hz : Go.Lf.bits .and .i64 c.1 c.2.1 = 0 ↔ (BitVec.ofInt 64 c.1 &&& BitVec.ofInt 64 c.2.1) = 0#64 := by rw [bits_and, num_zero]
  unfold Good chgS
  constructor
  · rintro ⟨⟨h1, h2⟩, ⟨h3, h4⟩, h5, h6⟩
    rw [if_pos ⟨h1, h2, h3, h4, hz.2 h5⟩, if_pos h6]
  · intro h
    split at h
    · rename_i h1
      split at h
      · rename_i h2
        exact ⟨⟨h1.1, h1.2.1⟩, ⟨h1.2.2.1, h1.2.2.2.1⟩, hz.1 h1.2.2.2.2, h2⟩
      · omega
    · omega
theorem or_seven {n : Int} (h0 : 0 ≤ n) (h1 : n ≤ 127) {i : Nat} (hi : i < 7) : 0 ≤ Go.Lf.bits .or .i64 n (2 ^ i : Int) ∧ Go.Lf.bits .or .i64 n (2 ^ i : Int) ≤ 127 := by
  rw [bits_or]
  refine seven_of _ fun j hj => ?_
  rw [BitVec.getLsbD_or, seven h0 h1 j hj, ofInt_pow i hi, BitVec.getLsbD_twoPow]
  have : ¬ i = j := by omega
  simp [this]
theorem and_or_zero {X Y : BitVec 64} {i : Nat} (h : X &&& Y = 0#64) (hb : (X ||| Y).getLsbD i = false) : (X ||| BitVec.twoPow 64 i) &&& Y = 0#64 := by
  apply BitVec.eq_of_getLsbD_eq
  intro j hj
  have h1 := congrArg (fun x : BitVec 64 => x.getLsbD j) h
  simp only [BitVec.getLsbD_and, BitVec.getLsbD_zero] at h1
  rw [BitVec.getLsbD_and, BitVec.getLsbD_or, BitVec.getLsbD_twoPow, BitVec.getLsbD_zero]
  by_cases hij : i = j
  · subst hij
    rw [BitVec.getLsbD_or] at hb
    have : Y.getLsbD i = false := by revert hb; cases X.getLsbD i <;> simp
    simp [this]
  · simp [hij, h1]
theorem attrS_good {c c' : Chg} {w : Bs} (h : Good c) (ha : attrS c w = some c') : Good c' := by
  obtain ⟨on, off, col, ⟨⟩⟩ := c
  cases w with
  | nil => cases ha
  | cons s a =>
    unfold attrS at ha
    dsimp only at ha
    obtain ⟨h1, h2, h3, h4⟩ := h
    dsimp only at h1 h2 h3 h4
    cases h7 : at7 0 W7 a with
    | none => rw [h7] at ha; cases ha
    | some i =>
      rw [h7] at ha
      have hi : i < 7 := (at7_lt W7 0 a i h7).2
      dsimp only at ha
      split at ha
      · cases ha
      · rename_i hb
        have hb : (BitVec.ofInt 64 on ||| BitVec.ofInt 64 off).getLsbD i = false := by simpa using hb
        split at ha
        · injection ha with ha; subst ha
          refine ⟨or_seven h1.1 h1.2 hi, h2, ?_, h4⟩
          show (BitVec.ofInt 64 (Go.Lf.bits .or .i64 on (2 ^ i : Int)) &&& BitVec.ofInt 64 off) = 0#64
          rw [bits_or, num_inj, ofInt_pow i hi]
          exact and_or_zero h3 hb
        · split at ha
          · injection ha with ha; subst ha
            refine ⟨h1, or_seven h2.1 h2.2 hi, ?_, h4⟩
            show (BitVec.ofInt 64 on &&& BitVec.ofInt 64 (Go.Lf.bits .or .i64 off (2 ^ i : Int))) = 0#64
            rw [bits_or, num_inj, ofInt_pow i hi, BitVec.and_comm]
            exact and_or_zero (by rw [BitVec.and_comm]; exact h3) (by rw [BitVec.or_comm]; exact hb)
          · cases ha
theorem pw_good : ∀ (r : List Bs) (p : Bool) (st st' : Sty), Good st.2.2.1 → pw p st r = some st' → Good st'.2.2.1 ∧ st'.1 = st.1 ∧ st'.2.1 = st.2.1
  | [], false, st, st', h, hp => by injection hp with hp; subst hp; exact ⟨h, rfl, rfl⟩
  | [], true, st, st', h, hp => by cases hp
  | w :: r, true, st, st', h, hp => by
    unfold pw at hp
    cases hc : colS w with
    | none => rw [hc] at hp; cases hp
    | some n =>
      rw [hc] at hp
      dsimp only at hp
      split at hp
      · have := (colS_some hc).1
        have hg : Good (st.2.2.1.1, st.2.2.1.2.1, (n : Int), ()) := ⟨h.1, h.2.1, h.2.2.1, by show -1 ≤ (n : Int); omega, by show (n : Int) ≤ 15; omega⟩
        exact pw_good r false (st.1, st.2.1, (st.2.2.1.1, st.2.2.1.2.1, (n : Int), ()), ()) st' hg hp
      · cases hp
  | w :: r, false, st, st', h, hp => by
    unfold pw at hp
    split at hp
    · exact pw_good r true st st' h hp
    · cases ha : attrS st.2.2.1 w with
      | none => rw [ha] at hp; cases hp
      | some c =>
        rw [ha] at hp
        exact pw_good r false (st.1, st.2.1, c, ()) st' (attrS_good h ha) hp

/-- words with a blank ahead of each -/
def spaced : List Bs → Bs
  | [] => []
  | w :: r => 32 :: (w ++ spaced r)
theorem spaced_app : ∀ a b : List Bs, spaced (a ++ b) = spaced a ++ spaced b
  | [], b => rfl
  | w :: a, b => by
    have e : ∀ (x : Bs) (y : List Bs), spaced (x :: y) = 32 :: (x ++ spaced y) := fun _ _ => rfl
    rw [List.cons_append, e, e, spaced_app a b]
    simp [List.append_assoc]
def Word (w : Bs) : Prop := w ≠ [] ∧ ∀ b ∈ w, b.toNat ≠ 32
theorem sp_spaced : ∀ (ws : List Bs) (acc : List Bs) (cur : Bs), cur ≠ [] → (∀ w ∈ ws, Word w) → sp acc cur (spaced ws) = acc ++ cur :: ws
  | [], acc, cur, hc, _ => by simp [spaced, sp, shut, hc]
  | w :: ws, acc, cur, hc, h => by
    have hw := h w List.mem_cons_self
    unfold spaced
    rw [sp_cons, if_pos (by decide), sp_skip w _ _ _ hw.2, List.nil_append, sp_spaced ws _ w hw.1 fun x hx => h x (List.mem_cons_of_mem _ hx)]
    simp [shut, hc]
def wordsW (bit : Nat → Bool) (c : UInt8) : Nat → List Bs → List Bs
  | _, [] => []
  | i, x :: r => (if bit i then [c :: x] else []) ++ wordsW bit c (i + 1) r
theorem bitsW_spaced (bit : Nat → Bool) (c : UInt8) : ∀ (l : List Bs) (i : Nat), bitsW bit [32, c] i l = spaced (wordsW bit c i l)
  | [], i => rfl
  | x :: r, i => by
    unfold bitsW wordsW
    rw [spaced_app, bitsW_spaced bit c r (i + 1)]
    cases bit i <;> simp [spaced]
theorem wordsW_mem (bit : Nat → Bool) (c : UInt8) : ∀ (l : List Bs) (i : Nat) (w : Bs), w ∈ wordsW bit c i l → ∃ x ∈ l, w = c :: x
  | [], i, w, h => by cases h
  | x :: r, i, w, h => by
    unfold wordsW at h
    rcases List.mem_append.1 h with h | h
    · cases hb : bit i with
      | true => rw [hb] at h; exact ⟨x, List.mem_cons_self, List.mem_singleton.1 h⟩
      | false => rw [hb] at h; cases h
    · obtain ⟨y, hy, e⟩ := wordsW_mem bit c r (i + 1) w h
      exact ⟨y, List.mem_cons_of_mem _ hy, e⟩
theorem W7_clean : ∀ x ∈ W7, ∀ b ∈ x, b.toNat ≠ 32 := by decide
theorem wordsW_word (bit : Nat → Bool) (c : UInt8) (hc : c.toNat ≠ 32) : ∀ w ∈ wordsW bit c 0 W7, Word w := fun w hw => by
  obtain ⟨x, hx, rfl⟩ := wordsW_mem bit c W7 0 w hw
  refine ⟨by simp, fun b hb => ?_⟩
  rcases List.mem_cons.1 hb with rfl | hb
  · exact hc
  · exact W7_clean x hx b hb
/-- bits, one by one -/
def orW (bit : Nat → Bool) : Nat → List Bs → BitVec 64 → BitVec 64
  | _, [], A => A
  | i, _ :: r, A => orW bit (i + 1) r (if bit i then A ||| BitVec.twoPow 64 i else A)
theorem orW_bit (bit : Nat → Bool) : ∀ (l : List Bs) (i : Nat) (A : BitVec 64) (j : Nat), i + l.length ≤ 64 → (orW bit i l A).getLsbD j = (A.getLsbD j || (decide (i ≤ j) && decide (j < i + l.length) && bit j))
  | [], i, A, j, _ => by
    have : (decide (i ≤ j) && decide (j < i + 0) && bit j) = false := by
      by_cases h : i ≤ j
      · have : ¬ j < i + 0 := by omega
        rw [decide_eq_false this]; simp
      · rw [decide_eq_false h]; rfl
    unfold orW
    rw [List.length_nil, this]; simp
  | x :: r, i, A, j, hl => by
    rw [List.length_cons] at hl ⊢
    unfold orW
    rw [orW_bit bit r (i + 1) _ j (by omega)]
    by_cases hij : i = j
    · subst hij
      have h1 : ¬ (i + 1 ≤ i) := by omega
      have h2 : i < i + (r.length + 1) := by omega
      have h3 : i < 64 := by omega
      cases hb : bit i <;> simp [h1, h2, hb, BitVec.getLsbD_twoPow, h3]
    · have h1 : (i + 1 ≤ j) ↔ (i ≤ j) := by omega
      have h2 : (j < i + 1 + r.length) ↔ (j < i + (r.length + 1)) := by omega
      have h3 : ¬ i = j := hij
      cases hb : bit i <;> simp [h1, h2, hb, BitVec.getLsbD_twoPow, h3]
theorem orW_all {n : Int} (h0 : 0 ≤ n) (h1 : n ≤ 127) : num (orW (bitN n) 0 W7 0#64) = n := by
  have : orW (bitN n) 0 W7 0#64 = BitVec.ofInt 64 n := by
    apply BitVec.eq_of_getLsbD_eq
    intro j hj
    rw [orW_bit _ _ _ _ _ (by show 0 + 7 ≤ 64; omega), BitVec.getLsbD_zero]
    have e : W7.length = 7 := rfl
    rw [e]
    by_cases h7 : j < 7
    · simp [h7, bitN]
    · rw [seven h0 h1 j (by omega)]
      simp [h7]
  rw [this, num_of (fits127 h0 h1)]
theorem at7_W7 : ∀ (i : Nat) (x : Bs), W7[i]? = some x → at7 0 W7 x = some i := by
  have h : ∀ i, i < 7 → at7 0 W7 (W7[i]?.getD []) = some i := lt7 rfl rfl rfl rfl rfl rfl rfl
  intro i x hx
  have hi : i < 7 := (List.getElem?_eq_some_iff.1 hx).1
  have := h i hi
  rwa [hx] at this
theorem sign_ne_color {c : UInt8} (hc : c.toNat ≠ 99) (x : Bs) : ¬ (c :: x = COLOR) := fun e => by
  injection e with e _
  exact hc (by rw [e]; rfl)
theorem pw_on (nm bs : Bs) (col : Int) (bit : Nat → Bool) (off : BitVec 64) (rest : List Bs) : ∀ (m i : Nat) (A : BitVec 64), i + m = 7 → (∀ j, i ≤ j → bit j = true → (A ||| off).getLsbD j = false) →
    pw false (nm, bs, (num A, num off, col, ()), ()) (wordsW bit 43 i (W7.drop i) ++ rest) = pw false (nm, bs, (num (orW bit i (W7.drop i) A), num off, col, ()), ()) rest
  | 0, i, A, hi, _ => by
    have : i = 7 := by omega
    subst this
    rfl
  | m + 1, i, A, hi, hA => by
    have hlt : i < W7.length := by show i < 7; omega
    have hd : W7.drop i = W7[i] :: W7.drop (i + 1) := List.drop_eq_getElem_cons hlt
    rw [hd]
    unfold wordsW orW
    cases hb : bit i with
    | false =>
      simp only [Bool.false_eq_true, if_false, List.nil_append]
      exact pw_on nm bs col bit off rest m (i + 1) A (by omega) fun j hj => hA j (by omega)
    | true =>
      simp only [if_true, List.cons_append, List.nil_append]
      rw [show ∀ st w r, pw false st (w :: r) = if w = COLOR then pw true st r else match attrS st.2.2.1 w with | some c => pw false (st.1, st.2.1, c, ()) r | none => none from fun _ _ _ => rfl, if_neg (sign_ne_color (by decide) _)]
      have ha : attrS (num A, num off, col, ()) (43 :: W7[i]) = some (num (A ||| BitVec.twoPow 64 i), num off, col, ()) := by
        unfold attrS
        dsimp only
        rw [at7_W7 i _ (List.getElem?_eq_getElem hlt)]
        dsimp only
        rw [num_inj, num_inj, hA i (Nat.le_refl _) hb, bits_or, num_inj, ofInt_pow i hlt]
        rfl
      dsimp only
      rw [ha]
      exact pw_on nm bs col bit off rest m (i + 1) (A ||| BitVec.twoPow 64 i) (by omega) fun j hj hbj => by
        have h1 := hA j (by omega) hbj
        have h2 : ¬ i = j := by omega
        rw [BitVec.getLsbD_or] at h1
        rw [BitVec.getLsbD_or, BitVec.getLsbD_or, BitVec.getLsbD_twoPow]
        simpa [h2] using h1
theorem pw_off (nm bs : Bs) (col : Int) (bit : Nat → Bool) (on : BitVec 64) (rest : List Bs) : ∀ (m i : Nat) (A : BitVec 64), i + m = 7 → (∀ j, i ≤ j → bit j = true → (on ||| A).getLsbD j = false) →
    pw false (nm, bs, (num on, num A, col, ()), ()) (wordsW bit 45 i (W7.drop i) ++ rest) = pw false (nm, bs, (num on, num (orW bit i (W7.drop i) A), col, ()), ()) rest
  | 0, i, A, hi, _ => by
    have : i = 7 := by omega
    subst this
    rfl
  | m + 1, i, A, hi, hA => by
    have hlt : i < W7.length := by show i < 7; omega
    have hd : W7.drop i = W7[i] :: W7.drop (i + 1) := List.drop_eq_getElem_cons hlt
    rw [hd]
    unfold wordsW orW
    cases hb : bit i with
    | false =>
      simp only [Bool.false_eq_true, if_false, List.nil_append]
      exact pw_off nm bs col bit on rest m (i + 1) A (by omega) fun j hj => hA j (by omega)
    | true =>
      simp only [if_true, List.cons_append, List.nil_append]
      rw [show ∀ st w r, pw false st (w :: r) = if w = COLOR then pw true st r else match attrS st.2.2.1 w with | some c => pw false (st.1, st.2.1, c, ()) r | none => none from fun _ _ _ => rfl, if_neg (sign_ne_color (by decide) _)]
      have ha : attrS (num on, num A, col, ()) (45 :: W7[i]) = some (num on, num (A ||| BitVec.twoPow 64 i), col, ()) := by
        unfold attrS
        dsimp only
        rw [at7_W7 i _ (List.getElem?_eq_getElem hlt)]
        dsimp only
        rw [num_inj, num_inj, hA i (Nat.le_refl _) hb, bits_or (num A), num_inj, ofInt_pow i hlt]
        rfl
      dsimp only
      rw [ha]
      exact pw_off nm bs col bit on rest m (i + 1) (A ||| BitVec.twoPow 64 i) (by omega) fun j hj hbj => by
        have h1 := hA j (by omega) hbj
        have h2 : ¬ i = j := by omega
        rw [BitVec.getLsbD_or] at h1
        rw [BitVec.getLsbD_or, BitVec.getLsbD_or, BitVec.getLsbD_twoPow]
        simpa [h2] using h1
end Go.Fn

namespace Go.Fn
open Go Go.Lf

theorem low_of {b : UInt8} (h : low b = true) : b.toNat ≠ 32 ∧ b.toNat ≠ 58 := by
  unfold low at h
  simp at h
  omega
theorem okName_low {s : Bs} (h : okName s = true) : ∀ b ∈ s, low b = true := by
  unfold okName at h
  simp only [Bool.and_eq_true] at h
  exact List.all_eq_true.1 h.2
theorem okName_ne {s : Bs} (h : okName s = true) : s ≠ [] := fun e => by subst e; cases h
theorem p58_none : ∀ s : Bs, (∀ b ∈ s, b.toNat ≠ 58) → p58 s = none
  | [], _ => rfl
  | b :: r, h => by
    unfold p58
    rw [if_neg (h b List.mem_cons_self), p58_none r fun x hx => h x (List.mem_cons_of_mem _ hx)]
    rfl
theorem p58_some : ∀ (s r : Bs), (∀ b ∈ s, b.toNat ≠ 58) → p58 (s ++ 58 :: r) = some s.length
  | [], r, _ => rfl
  | b :: s, r, h => by
    rw [List.cons_append]
    unfold p58
    rw [if_neg (h b List.mem_cons_self), p58_some s r fun x hx => h x (List.mem_cons_of_mem _ hx)]
    rfl
def headW (st : Sty) : Bs := st.1 ++ (if st.2.1 = [] then [] else 58 :: st.2.1)
theorem head_word {st : Sty} (h1 : okName st.1 = true) (h2 : st.2.1 = [] ∨ okName st.2.1 = true) : Word (headW st) := by
  unfold headW
  constructor
  · intro e
    exact okName_ne h1 (List.append_eq_nil_iff.1 e).1
  · intro b hb
    rcases List.mem_append.1 hb with hb | hb
    · exact (low_of (okName_low h1 b hb)).1
    · split at hb
      · cases hb
      · rename_i hne
        rcases List.mem_cons.1 hb with rfl | hb
        · decide
        · rcases h2 with h2 | h2
          · exact absurd h2 hne
          · exact (low_of (okName_low h2 b hb)).1
theorem nm_head {st : Sty} (h1 : okName st.1 = true) (h2 : st.2.1 = [] ∨ okName st.2.1 = true) : nm (headW st) = (st.1, st.2.1, true) := by
  unfold headW nm
  have h58 : ∀ b ∈ st.1, b.toNat ≠ 58 := fun b hb => (low_of (okName_low h1 b hb)).2
  by_cases hb : st.2.1 = []
  · rw [if_pos hb, List.append_nil, p58_none _ h58]
    simp [h1, hb]
  · have h3 : okName st.2.1 = true := h2.resolve_left hb
    rw [if_neg hb, p58_some _ _ h58]
    have e1 : (st.1 ++ 58 :: st.2.1).take st.1.length = st.1 := List.take_left
    have e2 : (st.1 ++ 58 :: st.2.1).drop (st.1.length + 1) = st.2.1 := by
      rw [List.drop_append]; simp
    simp only [e1, e2, h1, h3, Bool.and_self]
theorem itoa_word : ∀ n : Nat, n < 16 → Word (Lib.itoa (n : Int)) := by
  have h : ((List.range 16).all fun n => (!(Lib.itoa (n : Int)).isEmpty) && (Lib.itoa (n : Int)).all fun b => !(Nat.beq b.toNat 32)) = true := by kernel_rfl
  intro n hn
  have h1 := List.all_eq_true.1 h n (List.mem_range.2 hn)
  rw [Bool.and_eq_true] at h1
  refine ⟨fun e => ?_, fun b hb => ?_⟩
  · rw [e] at h1; cases h1.1
  · have h2 := List.all_eq_true.1 h1.2 b hb
    intro e
    rw [e] at h2; cases h2
def colW (n : Int) : List Bs := if n = -1 then [] else [COLOR, Lib.itoa n]
theorem colW_word {n : Int} (h0 : -1 ≤ n) (h1 : n ≤ 15) : ∀ w ∈ colW n, Word w := fun w hw => by
  unfold colW at hw
  split at hw
  · cases hw
  · rename_i hne
    rcases List.mem_cons.1 hw with rfl | hw
    · exact ⟨by simp, by decide⟩
    · rw [List.mem_singleton.1 hw]
      have := itoa_word n.toNat (by omega)
      rwa [Int.toNat_of_nonneg (by omega)] at this
theorem write_good {st : Sty} (h1 : okName st.1 = true) (h2 : st.2.1 = [] ∨ okName st.2.1 = true) (hg : Good st.2.2.1) :
    writeS st = (headW st ++ spaced (wordsW (bitN st.2.2.1.1) 43 0 W7 ++ (wordsW (bitN st.2.2.1.2.1) 45 0 W7 ++ colW st.2.2.1.2.2.1)), 0) := by
  have hc := good_chg.1 hg
  unfold writeS headW
  rw [if_neg (by rw [h1]; simp), if_neg (by simp [hc]), if_neg (by
    rintro ⟨g1, g2⟩
    rcases h2 with h2 | h2
    · exact g1 h2
    · rw [h2] at g2; cases g2), bitsW_spaced, bitsW_spaced, spaced_app, spaced_app]
  congr 1
  rw [List.append_assoc, List.append_assoc]
  congr 3
  unfold colW
  split
  · rfl
  · simp [spaced]
theorem pw_col (nm bs : Bs) (on off : Int) {n : Int} (h0 : -1 ≤ n) (h1 : n ≤ 15) : pw false (nm, bs, (on, off, -1, ()), ()) (colW n) = some (nm, bs, (on, off, n, ()), ()) := by
  unfold colW
  by_cases hn : n = -1
  · subst hn; rfl
  · rw [if_neg hn]
    have hc : colS (Lib.itoa n) = some n.toNat := colS_of (by omega) (by rw [Int.toNat_of_nonneg (by omega)])
    have e1 : ∀ st w r, pw false st (w :: r) = if w = COLOR then pw true st r else match attrS st.2.2.1 w with | some c => pw false (st.1, st.2.1, c, ()) r | none => none := fun _ _ _ => rfl
    have e2 : ∀ st w r, pw true st (w :: r) = match colS w with | some n => if st.2.2.1.2.2.1 = -1 then pw false (st.1, st.2.1, (st.2.2.1.1, st.2.2.1.2.1, (n : Int), ()), ()) r else none | none => none := fun _ _ _ => rfl
    rw [e1, if_pos rfl, e2, hc]
    dsimp only
    rw [if_pos rfl, Int.toNat_of_nonneg (by omega)]
    rfl
theorem back_good {st : Sty} (h1 : okName st.1 = true) (h2 : st.2.1 = [] ∨ okName st.2.1 = true) (hg : Good st.2.2.1) : parse (writeS st).1 = (st, 0) := by
  have hw := write_good h1 h2 hg
  have hlen : (writeS st).1.length ≤ 4096 := by
    have l1 := okName_len h1
    have l2 : st.2.1.length ≤ 12 := by
      rcases h2 with h2 | h2
      · rw [h2]; simp
      · exact okName_len h2
    have l3 := bits7 (bitN st.2.2.1.1) [32, 43] (by simp)
    have l4 := bits7 (bitN st.2.2.1.2.1) [32, 45] (by simp)
    have l5 : (spaced (colW st.2.2.1.2.2.1)).length ≤ 9 := by
      unfold colW
      split
      · simp [spaced]
      · rename_i hn
        have := (itoaC hg.2.2.2.1 hg.2.2.2.2 hn).2
        simp only [spaced, List.length_cons, List.length_append, List.length_nil]
        omega
    rw [hw, spaced_app, spaced_app, ← bitsW_spaced, ← bitsW_spaced]
    unfold headW
    simp only [List.length_append]
    split
    · simp only [List.length_nil]; omega
    · simp only [List.length_cons]; omega
  obtain ⟨hh1, hh2⟩ := head_word h1 h2
  unfold parse
  rw [if_neg (by omega), hw]
  dsimp only
  rw [sp_skip _ _ _ _ hh2, List.nil_append, sp_spaced _ _ _ hh1 (fun w hw => by
    rcases List.mem_append.1 hw with hw | hw
    · exact wordsW_word _ _ (by decide) w hw
    · rcases List.mem_append.1 hw with hw | hw
      · exact wordsW_word _ _ (by decide) w hw
      · exact colW_word hg.2.2.2.1 hg.2.2.2.2 w hw), List.nil_append]
  dsimp only
  rw [nm_head h1 h2]
  dsimp only
  rw [if_pos rfl]
  obtain ⟨nm, bs, ⟨on, off, col, ⟨⟩⟩, ⟨⟩⟩ := st
  obtain ⟨g1, g2, g3, g4⟩ := hg
  dsimp only at g1 g2 g3 g4 ⊢
  have z : num 0#64 = 0 := by decide
  have p1 := pw_on nm bs (-1) (bitN on) 0#64 (wordsW (bitN off) 45 0 W7 ++ colW col) 7 0 0#64 rfl (fun j _ _ => by rw [BitVec.or_zero]; simp)
  have p2 := pw_off nm bs (-1) (bitN off) (BitVec.ofInt 64 on) (colW col) 7 0 0#64 rfl (fun j _ hj => by
    rw [BitVec.or_zero]
    have := congrArg (fun x : BitVec 64 => x.getLsbD j) g3
    simp only [BitVec.getLsbD_and, BitVec.getLsbD_zero] at this
    unfold bitN at hj
    rw [hj] at this
    simpa using this)
  rw [List.drop_zero, orW_all g1.1 g1.2, z] at p1
  rw [List.drop_zero, orW_all g2.1 g2.2, num_of (fits127 g1.1 g1.2), z] at p2
  rw [p1, p2, pw_col nm bs on off g4.1 g4.2]
theorem write_ok {st : Sty} (h : (writeS st).2 = 0) : okName st.1 = true ∧ (st.2.1 = [] ∨ okName st.2.1 = true) ∧ Good st.2.2.1 := by
  unfold writeS at h
  split at h
  · exact absurd h (by decide)
  · rename_i g1
    split at h
    · rename_i g2; exact absurd h g2
    · rename_i g2
      split at h
      · exact absurd h (by decide)
      · rename_i g3
        refine ⟨by simpa using g1, ?_, good_chg.2 (by simpa using g2)⟩
        by_cases hb : st.2.1 = []
        · exact .inl hb
        · right
          cases hk : okName st.2.1 with
          | true => rfl
          | false => exact absurd ⟨hb, hk⟩ g3
theorem parse_ok {s : Bs} (h : (parse s).2 = 0) : okName (parse s).1.1 = true ∧ ((parse s).1.2.1 = [] ∨ okName (parse s).1.2.1 = true) ∧ Good (parse s).1.2.2.1 := by
  unfold parse at h ⊢
  split at h
  · exact absurd h (by decide)
  · rename_i g1
    rw [if_neg g1]
    revert h
    generalize sp [] [] s = ws
    intro h
    cases ws with
    | nil => exact absurd h (by decide)
    | cons w r =>
      dsimp only at h ⊢
      split at h
      · rename_i g2
        rw [if_pos g2]
        cases hp : pw false ((nm w).1, (nm w).2.1, (0, 0, -1, ()), ()) r with
        | none => rw [hp] at h; exact absurd h (by decide)
        | some st =>
          obtain ⟨q1, q2, q3⟩ := pw_good r false _ st (show Good (0, 0, -1, ()) from ⟨by decide, by decide, by decide, by decide, by decide⟩) hp
          dsimp only at q2 q3 ⊢
          rw [q2, q3]
          unfold nm at g2 ⊢
          cases hp8 : p58 w with
          | none => rw [hp8] at g2; exact ⟨g2, .inl rfl, q1⟩
          | some i =>
            rw [hp8] at g2
            have g2 : (okName (w.take i) && okName (w.drop (i + 1))) = true := g2
            rw [Bool.and_eq_true] at g2
            exact ⟨g2.1, .inr g2.2, q1⟩
      · exact absurd h (by decide)
theorem parse_bad {s : Bs} (h : (parse s).2 ≠ 0) : (parse s).1 = zs := by
  unfold parse at h ⊢
  split
  · rfl
  · rename_i g1
    rw [if_neg g1] at h
    revert h
    generalize sp [] [] s = ws
    intro h
    cases ws with
    | nil => rfl
    | cons w r =>
      dsimp only at h ⊢
      split
      · rename_i g2
        rw [if_pos g2] at h
        cases hp : pw false ((nm w).1, (nm w).2.1, (0, 0, -1, ()), ()) r with
        | none => rfl
        | some st => rw [hp] at h; exact absurd rfl h
      · rfl
end Go.Fn

namespace Go.Fn
open Go Go.Lf

/-- a style's place, by its name -/
def fnd : List Sty → Bs → Option Nat
  | [], _ => none
  | s :: r, n => if s.1 = n then some 0 else (fnd r n).map (· + 1)
theorem fnd_lt : ∀ (l : List Sty) (n : Bs) (i : Nat), fnd l n = some i → i < l.length
  | [], n, i, h => by cases h
  | s :: r, n, i, h => by
    unfold fnd at h
    split at h
    · injection h with h; subst h; simp
    · cases hr : fnd r n with
      | none => rw [hr] at h; cases h
      | some j =>
        rw [hr] at h
        have := fnd_lt r n j hr
        have h : j + 1 = i := by injection h
        simp only [List.length_cons]; omega
theorem find_loop (l : List Sty) (n : Bs) (hl : l.length < 9223372036854775807) (B : Int → Option (Int ⊕ (Unit ⊕ (Int × Bool)))) (hB : ∀ z1, B z1 = (bif (decide (z1 < (((List.length l) : Nat) : Int))) then ((Go.Lf.idx l z1)).bind fun r2 =>
     bif (decide ((r2.1 : List (UInt8)) = n)) then some (.inr (.inr (z1, true)))
     else some (.inl (Go.IntKind.wrap .i64 (z1 + (1 : Int))))
     else some (.inr (.inl ())))) : (loopC B 0).bind (fun r3 => onSum r3 (fun _ => some ((0 : Int), false)) (fun b5 => some (b5.1, b5.2))) = some (match fnd l n with | some i => ((i : Int), true) | none => (0, false)) := by
  have h := range_loopI0 (l := l) (κ := Unit ⊕ (Int × Bool)) (B := B) (fun i s => if s.1 = n then some (.inr (.inr ((i : Int), true))) else some (.inl ())) (.inl ()) (fun i x hx => by
      have hlt : i < l.length := (List.getElem?_eq_some_iff.1 hx).1
      have e1 : (i : Int) < ((l.length : Nat) : Int) := by omega
      rw [hB, idx_nat, hx, wrapS (by omega)]
      by_cases hw : x.1 = n <;> simp [e1, hw, onSum]) (by rw [hB]; simp) l.length 0 (by omega)
  rw [List.drop_zero] at h
  have key : ∀ (l : List Sty) (k : Nat), foldI (fun i s (_ : Unit) => if s.1 = n then some (.inr (.inr ((i : Int), true))) else some (.inl ())) (fun _ => (.inl () : Unit ⊕ (Int × Bool))) k l () = some (match fnd l n with | some i => .inr (((k + i : Nat) : Int), true) | none => .inl ()) := fun l => by
    induction l with
    | nil => intro k; rfl
    | cons x r ih =>
      intro k
      unfold foldI fnd
      by_cases hx : x.1 = n
      · simp [hx, onSum]
      · simp only [hx, if_false, Option.bind_some, onSum]
        rw [ih (k + 1)]
        cases fnd r n with
        | none => rfl
        | some i => simp only [Option.map_some, show k + 1 + i = k + (i + 1) by omega]
  rw [key] at h
  have h : loopC B (0 : Int) = _ := h
  rw [h]
  cases fnd l n with
  | none => rfl
  | some i => simp [onSum]
theorem sfind_eq (l : List Sty) (n : Bs) (hl : l.length < 9223372036854775807) : style_Find l n = some (match fnd l n with | some i => ((i : Int), true) | none => (0, false)) := find_loop l n hl _ fun _ => rfl
/-- a loop over places that may stop -/
theorem loop_all {K : Type} {B : Int → Option (Int ⊕ (Unit ⊕ K))} (n : Nat) (P : Nat → Prop) (Q : K → Prop) (h1 : ∀ i, i < n → (B (i : Int) = some (.inl ((i + 1 : Nat) : Int)) ∧ P i) ∨ ∃ k, B (i : Int) = some (.inr (.inr k)) ∧ Q k)
    (h2 : B (n : Int) = some (.inr (.inl ()))) : ∀ m i : Nat, i + m = n → (loopC B (i : Int) = some (.inl ()) ∧ ∀ j, i ≤ j → j < n → P j) ∨ ∃ k, loopC B (i : Int) = some (.inr k) ∧ Q k
  | 0, i, h => by
    have : i = n := by omega
    subst this
    rw [loopC_step, h2]
    exact .inl ⟨rfl, fun j _ _ => by omega⟩
  | m + 1, i, h => by
    rw [loopC_step]
    rcases h1 i (by omega) with ⟨e, hp⟩ | ⟨k, e, hq⟩
    · rw [e]
      rcases loop_all n P Q h1 h2 m (i + 1) (by omega) with ⟨e2, hp2⟩ | ⟨k, e2, hq⟩
      · refine .inl ⟨e2, fun j h3 h4 => ?_⟩
        by_cases hj : j = i
        · subst hj; exact hp
        · exact hp2 j (by omega) h4
      · exact .inr ⟨k, e2, hq⟩
    · rw [e]
      exact .inr ⟨k, rfl, hq⟩
/-- sheets whose parts are in range -/
def Fine (l : List Sty) : Prop := l.length ≤ 140737488351300 ∧ ∀ s ∈ l, s.1.length ≤ lim ∧ s.2.1.length ≤ lim ∧ Fits s.2.2.1.1 ∧ Fits s.2.2.1.2.1
end Go.Fn

namespace Go.Fn
open Go Go.Lf

def BASE : List Sty := [([98], [], (1, 0, -1, ()), ()), ([105], [], (2, 0, -1, ()), ()), ([117], [], (4, 0, -1, ()), ()), ([115], [], (8, 0, -1, ()), ()), ([109], [], (16, 0, -1, ()), ()), ([104], [], (5, 0, -1, ()), ())]
theorem rbase_eq : folioref06_Base = some BASE := rfl
def okB (s : Sty) : Bool := Nat.ble s.1.length lim && Nat.ble s.2.1.length lim && decide (IntKind.i64.min ≤ s.2.2.1.1) && decide (s.2.2.1.1 ≤ IntKind.i64.max) && decide (IntKind.i64.min ≤ s.2.2.1.2.1) && decide (s.2.2.1.2.1 ≤ IntKind.i64.max)
theorem base_fine : ∀ s ∈ BASE, s.1.length ≤ lim ∧ s.2.1.length ≤ lim ∧ Fits s.2.2.1.1 ∧ Fits s.2.2.1.2.1 := by
  have h : BASE.all okB = true := by kernel_rfl
  intro s hs
  have := List.all_eq_true.1 h s hs
  unfold okB at this
  simp only [Bool.and_eq_true] at this
  obtain ⟨⟨⟨⟨⟨h1, h2⟩, h3⟩, h4⟩, h5⟩, h6⟩ := this
  exact ⟨Nat.le_of_ble_eq_true h1, Nat.le_of_ble_eq_true h2, ⟨of_decide_eq_true h3, of_decide_eq_true h4⟩, ⟨of_decide_eq_true h5, of_decide_eq_true h6⟩⟩
theorem fine_all {l : List Sty} (h : l.length * 56 ≤ lim) (ha : ∀ s ∈ l, s.1.length ≤ lim ∧ s.2.1.length ≤ lim ∧ Fits s.2.2.1.1 ∧ Fits s.2.2.1.2.1) : Fine (BASE ++ l) := by
  unfold lim at h
  refine ⟨by rw [List.length_append, show BASE.length = 6 from rfl]; omega, fun s hs => ?_⟩
  rcases List.mem_append.1 hs with hs | hs
  · exact base_fine s hs
  · exact ha s hs
section
end
end Go.Fn

namespace Go.Fn
open Go Go.Lf

theorem loop_same {K : Type} {B B' : Int → Option (Int ⊕ K)} (n : Nat) (h1 : ∀ i, i < n → B (i : Int) = B' (i : Int)) (h2 : B (n : Int) = B' (n : Int)) (h3 : ∀ i, i < n → ∀ z, B (i : Int) = some (.inl z) → z = ((i + 1 : Nat) : Int)) (h4 : ∃ k, B (n : Int) = some (.inr k)) :
    ∀ m i : Nat, i + m = n → loopC B (i : Int) = loopC B' (i : Int)
  | 0, i, h => by
    have : i = n := by omega
    subst this
    obtain ⟨k, hk⟩ := h4
    rw [loopC_step, loopC_step (B := B'), ← h2, hk]
    rfl
  | m + 1, i, h => by
    rw [loopC_step, loopC_step (B := B'), ← h1 i (by omega)]
    cases hb : B (i : Int) with
    | none => rfl
    | some r =>
      cases r with
      | inr k => rfl
      | inl z =>
        have := h3 i (by omega) z hb
        subst this
        exact loop_same n h1 h2 h3 h4 m (i + 1) (by omega)
/-- does a style's line of parents end? -/
def endsS (l : List Sty) : Nat → Nat → Bool
  | 0, _ => false
  | m + 1, i => match l[i]? with
    | none => true
    | some s => if s.2.1 = [] then true else match fnd l s.2.1 with
      | none => true
      | some j => endsS l m j
theorem endsS_succ (l : List Sty) (m i : Nat) : endsS l (m + 1) i = match l[i]? with
    | none => true
    | some s => if s.2.1 = [] then true else match fnd l s.2.1 with
      | none => true
      | some j => endsS l m j := rfl
theorem ends_exact (l : List Sty) (hl : l.length < 9223372036854775807) (B : Int × Int × Bool → Option ((Int × Int × Bool) ⊕ Bool)) (hB : ∀ z1, B z1 = (bif (decide (z1.1 < (8 : Int))) then ((Go.Lf.idx l z1.2.1)).bind fun r2 =>
     ((Go.Fn.style_Find l r2.2.1)).bind fun r3 =>
     (((Go.Lf.idx l z1.2.1)).bind fun r4 =>
       bif (!(decide ((r4.2.1 : List (UInt8)) = ([] : List (UInt8))))) then some (!r3.2)
       else some true).bind fun r5 =>
     bif r5 then some (.inr true)
     else some (.inl ((Go.IntKind.wrap .i64 (z1.1 + (1 : Int))), (r3.1, z1.2.2)))
     else some (.inr z1.2.2))) : ∀ (m k i : Nat), k + m = 8 → i < l.length → loopC B ((k : Int), (i : Int), false) = some (endsS l m i)
  | 0, k, i, hk, hi => by
    have hk8 : ¬ (k : Int) < 8 := by omega
    rw [loopC_step, hB]
    simp only [hk8, decide_false, cond_false, Option.bind_some]
    rfl
  | m + 1, k, i, hk, hi => by
    have hk8 : (k : Int) < 8 := by omega
    have hg : idx l (i : Int) = some l[i] := by rw [idx_nat, List.getElem?_eq_getElem hi]
    rw [loopC_step, hB, endsS_succ, List.getElem?_eq_getElem hi]
    simp only [hk8, decide_true, cond_true, hg, Option.bind_some, sfind_eq l _ hl]
    by_cases hb : l[i].2.1 = []
    · simp only [hb, decide_true, Bool.not_true, cond_false, Option.bind_some, cond_true, if_true]
    · simp only [hb, decide_false, Bool.not_false, cond_true, Option.bind_some, if_false]
      cases hf : fnd l l[i].2.1 with
      | none => rfl
      | some j =>
        simp only [Bool.not_true, cond_false, Option.bind_some]
        rw [wrapS (by omega)]
        exact ends_exact l hl B hB m (k + 1) j (by omega) (fnd_lt l _ j hf)
theorem sends_eq (l : List Sty) (hl : l.length < 9223372036854775807) (i : Nat) (hi : i < l.length) : style_ends l (i : Int) = some (endsS l 8 i) := by
  unfold style_ends
  have e := ends_exact l hl _ (fun _ => rfl) 8 0 i rfl hi
  have e : loopC _ ((0 : Int), ((i : Int), false)) = _ := e
  rw [e]
  rfl
theorem fnd_self : ∀ (l : List Sty) (i : Nat) (hi : i < l.length), ∃ j, fnd l l[i].1 = some j ∧ j ≤ i
  | [], i, hi => absurd hi (Nat.not_lt_zero _)
  | s :: r, 0, _ => ⟨0, if_pos rfl, Nat.le_refl _⟩
  | s :: r, i + 1, hi => by
    simp only [List.getElem_cons_succ]
    unfold fnd
    by_cases h : s.1 = (r[i]'(by simpa using hi)).1
    · exact ⟨0, if_pos h, Nat.zero_le _⟩
    · obtain ⟨j, h1, h2⟩ := fnd_self r i (by simpa using hi)
      rw [if_neg h, h1]
      exact ⟨j + 1, rfl, by omega⟩
theorem fnd_take : ∀ (l : List Sty) (n : Bs) (i j : Nat), fnd l n = some j → (fnd (l.take i) n).isSome = decide (j < i)
  | [], n, i, j, h => by cases h
  | s :: r, n, 0, j, h => by simp [fnd]
  | s :: r, n, i + 1, j, h => by
    rw [List.take_succ_cons]
    unfold fnd at h ⊢
    by_cases hs : s.1 = n
    · rw [if_pos hs] at h ⊢
      injection h with h
      subst h
      simp
    · rw [if_neg hs] at h ⊢
      cases hr : fnd r n with
      | none => rw [hr] at h; cases h
      | some k =>
        rw [hr] at h
        have h : k + 1 = j := by injection h
        subst h
        rw [Option.isSome_map, fnd_take r n i k hr]
        exact decide_eq_decide.2 (by omega)
end Go.Fn
