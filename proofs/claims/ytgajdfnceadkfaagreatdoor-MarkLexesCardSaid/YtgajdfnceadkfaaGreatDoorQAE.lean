/- Parts of the proof. -/
import Derived.Test.YtgajdfnceadkfaaGreatDoorQAD
import Derived.KernelRfl
import Derived.Test.YtgajdfnceadkfaaGreatDoorQAC
import Derived.Lib.SpaceUEq
import Derived.Lib.MapLaws
import Derived.Lib.ReplaceLaws
import Derived.Lib.RuneCountTail
open Go Go.Lf
set_option maxRecDepth 10000
namespace Go.Fn
@[reducible] def mark_Escape_c (_ : Nat) (a0 : List UInt8) := Go.Fn.mark_Escape a0
theorem mark_Escape_le (n : Nat) (a0 : List UInt8) : Go.Lf.Le (mark_Escape_c n a0) (mark_Escape a0) := Go.Lf.Le.refl
@[reducible] def text_Plain_c (_ : Nat) (a0 : List UInt8) := Go.Fn.text_Plain a0
theorem text_Plain_le (n : Nat) (a0 : List UInt8) : Go.Lf.Le (text_Plain_c n a0) (text_Plain a0) := Go.Lf.Le.refl
@[reducible] def strings_IndexByte_c (_ : Nat) (a0 : List UInt8) (a1 : Int) := Go.Fn.strings_IndexByte a0 a1
theorem strings_IndexByte_le (n : Nat) (a0 : List UInt8) (a1 : Int) : Go.Lf.Le (strings_IndexByte_c n a0 a1) (strings_IndexByte a0 a1) := Go.Lf.Le.refl
@[reducible] def strings_Cut_c (_ : Nat) (a0 : List UInt8) (a1 : List UInt8) := Go.Fn.strings_Cut a0 a1
theorem strings_Cut_le (n : Nat) (a0 : List UInt8) (a1 : List UInt8) : Go.Lf.Le (strings_Cut_c n a0 a1) (strings_Cut a0 a1) := Go.Lf.Le.refl
@[reducible] def strings_TrimSuffix_c (_ : Nat) (a0 : List UInt8) (a1 : List UInt8) := Go.Fn.strings_TrimSuffix a0 a1
theorem strings_TrimSuffix_le (n : Nat) (a0 : List UInt8) (a1 : List UInt8) : Go.Lf.Le (strings_TrimSuffix_c n a0 a1) (strings_TrimSuffix a0 a1) := Go.Lf.Le.refl
@[reducible] def strings_HasPrefix_c (_ : Nat) (a0 : List UInt8) (a1 : List UInt8) := Go.Fn.strings_HasPrefix a0 a1
theorem strings_HasPrefix_le (n : Nat) (a0 : List UInt8) (a1 : List UInt8) : Go.Lf.Le (strings_HasPrefix_c n a0 a1) (strings_HasPrefix a0 a1) := Go.Lf.Le.refl
@[reducible] def strings_Trim_c (_ : Nat) (a0 : List UInt8) (a1 : List UInt8) := Go.Fn.strings_Trim a0 a1
theorem strings_Trim_le (n : Nat) (a0 : List UInt8) (a1 : List UInt8) : Go.Lf.Le (strings_Trim_c n a0 a1) (strings_Trim a0 a1) := Go.Lf.Le.refl
@[reducible] def strings_ReplaceAll_c (_ : Nat) (a0 : List UInt8) (a1 : List UInt8) (a2 : List UInt8) := Go.Fn.strings_ReplaceAll a0 a1 a2
theorem strings_ReplaceAll_le (n : Nat) (a0 : List UInt8) (a1 : List UInt8) (a2 : List UInt8) : Go.Lf.Le (strings_ReplaceAll_c n a0 a1 a2) (strings_ReplaceAll a0 a1 a2) := Go.Lf.Le.refl
@[reducible] def utf8_DecodeRuneInString_c (_ : Nat) (a0 : List UInt8) := Go.Fn.utf8_DecodeRuneInString a0
theorem utf8_DecodeRuneInString_le (n : Nat) (a0 : List UInt8) : Go.Lf.Le (utf8_DecodeRuneInString_c n a0) (utf8_DecodeRuneInString a0) := Go.Lf.Le.refl
noncomputable def fault_New_c (n : Nat) (a0 : Int) (a1 : Int) (a2 : Int) (a3 : Int) (a4 : List (UInt8)) : Option (Option ((Int) × (((Int) × ((Int) × ((Int) × ((Int) × ((List (UInt8)) × ((List ((List (UInt8)) × ((Int) × (Unit)))) × (Unit))))))) × (Unit)))) :=
 bif (decide ((a0 : Int) = (0 : Int))) then some (none : Option ((Int) × (((Int) × ((Int) × ((Int) × ((Int) × ((List (UInt8)) × ((List ((List (UInt8)) × ((Int) × (Unit)))) × (Unit))))))) × (Unit))))
 else some (some ((1 : Int), ((a0, (a1, (a2, (a3, (a4, (([] : List ((List (UInt8)) × ((Int) × (Unit)))), ())))))), ())))
theorem fault_New_le (n : Nat) (a0 : Int) (a1 : Int) (a2 : Int) (a3 : Int) (a4 : List (UInt8)) : Go.Lf.Le (fault_New_c n a0 a1 a2 a3 a4) (fault_New a0 a1 a2 a3 a4) := by
  unfold fault_New_c fault_New
  repeat' first
    | with_reducible refine Go.Lf.Le.bind ?_ (fun _ => ?_)
    | with_reducible refine Go.Lf.Le.cond ?_ ?_
    | with_reducible refine Go.Lf.Le.loop (fun _ => ?_)
    | with_reducible refine Go.Lf.Le.onSum (fun _ => ?_) (fun _ => ?_)
    | with_reducible exact Go.Lf.Le.refl
noncomputable def mark_wrong_c (n : Nat) (a0 : Int) (a1 : Int) (a2 : Int) (a3 : List (UInt8)) : Option (Option ((Int) × (((Int) × ((Int) × ((Int) × ((Int) × ((List (UInt8)) × ((List ((List (UInt8)) × ((Int) × (Unit)))) × (Unit))))))) × (Unit)))) :=
 ((Go.Fn.fault_New_c n a0 (0 : Int) a1 a2 a3)).bind fun r1 =>
 some r1
theorem mark_wrong_le (n : Nat) (a0 : Int) (a1 : Int) (a2 : Int) (a3 : List (UInt8)) : Go.Lf.Le (mark_wrong_c n a0 a1 a2 a3) (mark_wrong a0 a1 a2 a3) := by
  unfold mark_wrong_c mark_wrong
  repeat' first
    | with_reducible exact Go.Fn.fault_New_le n _ _ _ _ _
    | with_reducible refine Go.Lf.Le.bind ?_ (fun _ => ?_)
    | with_reducible refine Go.Lf.Le.cond ?_ ?_
    | with_reducible refine Go.Lf.Le.loop (fun _ => ?_)
    | with_reducible refine Go.Lf.Le.onSum (fun _ => ?_) (fun _ => ?_)
    | with_reducible exact Go.Lf.Le.refl
noncomputable def mark_lexer__check_c (n : Nat) (a0 : (List ((Int) × ((List (UInt8)) × ((List (UInt8)) × ((Int) × ((Int) × (Unit))))))) × ((List ((List (UInt8)) × ((Int) × ((Int) × (Unit))))) × ((Int) × (((Int) × ((List (UInt8)) × ((List (UInt8)) × ((Int) × ((Int) × (Unit)))))) × (((Int) × ((Int) × (Unit))) × ((Int) × ((Int) × (Unit)))))))) (a1 : List (UInt8)) : Option ((Option ((Int) × (((Int) × ((Int) × ((Int) × ((Int) × ((List (UInt8)) × ((List ((List (UInt8)) × ((Int) × (Unit)))) × (Unit))))))) × (Unit)))) × ((List ((Int) × ((List (UInt8)) × ((List (UInt8)) × ((Int) × ((Int) × (Unit))))))) × ((List ((List (UInt8)) × ((Int) × ((Int) × (Unit))))) × ((Int) × (((Int) × ((List (UInt8)) × ((List (UInt8)) × ((Int) × ((Int) × (Unit)))))) × (((Int) × ((Int) × (Unit))) × ((Int) × ((Int) × (Unit))))))))) :=
 bif (decide ((4096 : Int) < (((List.length a1) : Nat) : Int))) then ((Go.Fn.mark_wrong_c n (2 : Int) a0.2.2.2.2.2.2.1 (1 : Int) ([] : List (UInt8)))).bind fun r1 =>
 some (r1, a0)
 else ((Go.Fn.strings_ReplaceAll_c n a1 ((9 : UInt8) :: ([] : List (UInt8))) ((32 : UInt8) :: ([] : List (UInt8))))).bind fun r2 =>
 ((Go.Fn.text_Plain_c n r2)).bind fun r3 =>
 bif (!r3.2) then ((Go.Fn.mark_wrong_c n (40 : Int) a0.2.2.2.2.2.2.1 (Go.IntKind.wrap .i64 (r3.1 + (1 : Int))) ([] : List (UInt8)))).bind fun r4 =>
 some (r4, a0)
 else some ((none : Option ((Int) × (((Int) × ((Int) × ((Int) × ((Int) × ((List (UInt8)) × ((List ((List (UInt8)) × ((Int) × (Unit)))) × (Unit))))))) × (Unit)))), a0)
theorem mark_lexer__check_le (n : Nat) (a0 : (List ((Int) × ((List (UInt8)) × ((List (UInt8)) × ((Int) × ((Int) × (Unit))))))) × ((List ((List (UInt8)) × ((Int) × ((Int) × (Unit))))) × ((Int) × (((Int) × ((List (UInt8)) × ((List (UInt8)) × ((Int) × ((Int) × (Unit)))))) × (((Int) × ((Int) × (Unit))) × ((Int) × ((Int) × (Unit)))))))) (a1 : List (UInt8)) : Go.Lf.Le (mark_lexer__check_c n a0 a1) (mark_lexer__check a0 a1) := by
  unfold mark_lexer__check_c mark_lexer__check
  repeat' first
    | with_reducible exact Go.Fn.mark_wrong_le n _ _ _ _
    | with_reducible exact Go.Fn.strings_ReplaceAll_le n _ _ _
    | with_reducible exact Go.Fn.text_Plain_le n _
    | with_reducible refine Go.Lf.Le.bind ?_ (fun _ => ?_)
    | with_reducible refine Go.Lf.Le.cond ?_ ?_
    | with_reducible refine Go.Lf.Le.loop (fun _ => ?_)
    | with_reducible refine Go.Lf.Le.onSum (fun _ => ?_) (fun _ => ?_)
    | with_reducible exact Go.Lf.Le.refl
noncomputable def mark_lexer__flush_c (n : Nat) (a0 : (List ((Int) × ((List (UInt8)) × ((List (UInt8)) × ((Int) × ((Int) × (Unit))))))) × ((List ((List (UInt8)) × ((Int) × ((Int) × (Unit))))) × ((Int) × (((Int) × ((List (UInt8)) × ((List (UInt8)) × ((Int) × ((Int) × (Unit)))))) × (((Int) × ((Int) × (Unit))) × ((Int) × ((Int) × (Unit)))))))) : Option ((List ((Int) × ((List (UInt8)) × ((List (UInt8)) × ((Int) × ((Int) × (Unit))))))) × ((List ((List (UInt8)) × ((Int) × ((Int) × (Unit))))) × ((Int) × (((Int) × ((List (UInt8)) × ((List (UInt8)) × ((Int) × ((Int) × (Unit)))))) × (((Int) × ((Int) × (Unit))) × ((Int) × ((Int) × (Unit)))))))) :=
 (bif (decide ((a0.2.2.2.1.2.2.1 : List (UInt8)) ≠ ([] : List (UInt8)))) then ((Go.Lf.app (56 : Nat) a0.1 (a0.2.2.2.1 :: ([] : List ((Int) × ((List (UInt8)) × ((List (UInt8)) × ((Int) × ((Int) × (Unit)))))))))).bind fun r1 =>
   some (r1, a0.2)
   else some a0).bind fun r2 =>
 some (r2.1, (r2.2.1, (r2.2.2.1, (((0 : Int), (([] : List (UInt8)), (([] : List (UInt8)), ((0 : Int), ((0 : Int), ()))))), r2.2.2.2.2))))
theorem mark_lexer__flush_le (n : Nat) (a0 : (List ((Int) × ((List (UInt8)) × ((List (UInt8)) × ((Int) × ((Int) × (Unit))))))) × ((List ((List (UInt8)) × ((Int) × ((Int) × (Unit))))) × ((Int) × (((Int) × ((List (UInt8)) × ((List (UInt8)) × ((Int) × ((Int) × (Unit)))))) × (((Int) × ((Int) × (Unit))) × ((Int) × ((Int) × (Unit)))))))) : Go.Lf.Le (mark_lexer__flush_c n a0) (mark_lexer__flush a0) := by
  unfold mark_lexer__flush_c mark_lexer__flush
  repeat' first
    | with_reducible refine Go.Lf.Le.bind ?_ (fun _ => ?_)
    | with_reducible refine Go.Lf.Le.cond ?_ ?_
    | with_reducible refine Go.Lf.Le.loop (fun _ => ?_)
    | with_reducible refine Go.Lf.Le.onSum (fun _ => ?_) (fun _ => ?_)
    | with_reducible exact Go.Lf.Le.refl
noncomputable def mark_lexer__end_c (n : Nat) (a0 : (List ((Int) × ((List (UInt8)) × ((List (UInt8)) × ((Int) × ((Int) × (Unit))))))) × ((List ((List (UInt8)) × ((Int) × ((Int) × (Unit))))) × ((Int) × (((Int) × ((List (UInt8)) × ((List (UInt8)) × ((Int) × ((Int) × (Unit)))))) × (((Int) × ((Int) × (Unit))) × ((Int) × ((Int) × (Unit)))))))) : Option ((Option ((Int) × (((Int) × ((Int) × ((Int) × ((Int) × ((List (UInt8)) × ((List ((List (UInt8)) × ((Int) × (Unit)))) × (Unit))))))) × (Unit)))) × ((List ((Int) × ((List (UInt8)) × ((List (UInt8)) × ((Int) × ((Int) × (Unit))))))) × ((List ((List (UInt8)) × ((Int) × ((Int) × (Unit))))) × ((Int) × (((Int) × ((List (UInt8)) × ((List (UInt8)) × ((Int) × ((Int) × (Unit)))))) × (((Int) × ((Int) × (Unit))) × ((Int) × ((Int) × (Unit))))))))) :=
 bif (decide ((a0.2.2.1 : Int) = (0 : Int))) then some ((none : Option ((Int) × (((Int) × ((Int) × ((Int) × ((Int) × ((List (UInt8)) × ((List ((List (UInt8)) × ((Int) × (Unit)))) × (Unit))))))) × (Unit)))), a0)
 else bif (decide ((0 : Int) < (((List.length a0.2.1) : Nat) : Int))) then ((Go.Lf.chk (List.length a0.2.1) (Go.IntKind.wrap .i64 ((((List.length a0.2.1) : Nat) : Int) - (1 : Int))))).bind fun r1 =>
 ((Go.Lf.nth a0.2.1 r1)).bind fun r2 =>
 ((Go.Fn.mark_wrong_c n (45 : Int) r2.2.1 r2.2.2.1 r2.1)).bind fun r3 =>
 some (r3, a0)
 else ((Go.Fn.mark_lexer__flush_c n a0)).bind fun r4 =>
 some ((none : Option ((Int) × (((Int) × ((Int) × ((Int) × ((Int) × ((List (UInt8)) × ((List ((List (UInt8)) × ((Int) × (Unit)))) × (Unit))))))) × (Unit)))), (r4.1, (r4.2.1, ((0 : Int), (r4.2.2.2.1, (((0 : Int), ((0 : Int), ())), r4.2.2.2.2.2))))))
theorem mark_lexer__end_le (n : Nat) (a0 : (List ((Int) × ((List (UInt8)) × ((List (UInt8)) × ((Int) × ((Int) × (Unit))))))) × ((List ((List (UInt8)) × ((Int) × ((Int) × (Unit))))) × ((Int) × (((Int) × ((List (UInt8)) × ((List (UInt8)) × ((Int) × ((Int) × (Unit)))))) × (((Int) × ((Int) × (Unit))) × ((Int) × ((Int) × (Unit)))))))) : Go.Lf.Le (mark_lexer__end_c n a0) (mark_lexer__end a0) := by
  unfold mark_lexer__end_c mark_lexer__end
  repeat' first
    | with_reducible exact Go.Fn.mark_lexer__flush_le n _
    | with_reducible exact Go.Fn.mark_wrong_le n _ _ _ _
    | with_reducible refine Go.Lf.Le.bind ?_ (fun _ => ?_)
    | with_reducible refine Go.Lf.Le.cond ?_ ?_
    | with_reducible refine Go.Lf.Le.loop (fun _ => ?_)
    | with_reducible refine Go.Lf.Le.onSum (fun _ => ?_) (fun _ => ?_)
    | with_reducible exact Go.Lf.Le.refl
noncomputable def mark_name_c (n : Nat) (a0 : List (UInt8)) : Option (Int) :=
 (Go.Lf.loopF n (σ := Int) (κ := Int) (fun z1 =>
     (bif (decide (z1 < (((List.length a0) : Nat) : Int))) then ((Go.Lf.idx a0 z1)).bind fun r2 =>
       bif (decide ((97 : Int) ≤ (((UInt8.toNat r2) : Nat) : Int))) then ((Go.Lf.idx a0 z1)).bind fun r3 =>
       some (decide ((((UInt8.toNat r3) : Nat) : Int) ≤ (122 : Int)))
       else some false
       else some false).bind fun r4 =>
     bif r4 then some (.inl (Go.IntKind.wrap .i64 (z1 + (1 : Int))))
     else some (.inr z1)) (0 : Int) : Option (Int)).bind fun r5 =>
 some r5
theorem mark_name_le (n : Nat) (a0 : List (UInt8)) : Go.Lf.Le (mark_name_c n a0) (mark_name a0) := by
  unfold mark_name_c mark_name
  repeat' first
    | with_reducible refine Go.Lf.Le.bind ?_ (fun _ => ?_)
    | with_reducible refine Go.Lf.Le.cond ?_ ?_
    | with_reducible refine Go.Lf.Le.loop (fun _ => ?_)
    | with_reducible refine Go.Lf.Le.onSum (fun _ => ?_) (fun _ => ?_)
    | with_reducible exact Go.Lf.Le.refl
noncomputable def mark_blanked_c (n : Nat) (a0 : Int) : Option (Bool) :=
 (bif (decide ((a0 : Int) = (9 : Int))) then some (.inl ())
   else bif (decide ((a0 : Int) = (32 : Int))) then some (.inl ())
   else some (.inr ()) : Option ((Unit) ⊕ (Unit))).bind fun r1 =>
 Go.Lf.onSum r1 (fun a2 =>
 some true) (fun b3 =>
 some false)
theorem mark_blanked_le (n : Nat) (a0 : Int) : Go.Lf.Le (mark_blanked_c n a0) (mark_blanked a0) := by
  unfold mark_blanked_c mark_blanked
  repeat' first
    | with_reducible refine Go.Lf.Le.bind ?_ (fun _ => ?_)
    | with_reducible refine Go.Lf.Le.cond ?_ ?_
    | with_reducible refine Go.Lf.Le.loop (fun _ => ?_)
    | with_reducible refine Go.Lf.Le.onSum (fun _ => ?_) (fun _ => ?_)
    | with_reducible exact Go.Lf.Le.refl
noncomputable def mark_lexer__directive_c (n : Nat) (a0 : (List ((Int) × ((List (UInt8)) × ((List (UInt8)) × ((Int) × ((Int) × (Unit))))))) × ((List ((List (UInt8)) × ((Int) × ((Int) × (Unit))))) × ((Int) × (((Int) × ((List (UInt8)) × ((List (UInt8)) × ((Int) × ((Int) × (Unit)))))) × (((Int) × ((Int) × (Unit))) × ((Int) × ((Int) × (Unit)))))))) (a1 : List (UInt8)) : Option ((Option ((Int) × (((Int) × ((Int) × ((Int) × ((Int) × ((List (UInt8)) × ((List ((List (UInt8)) × ((Int) × (Unit)))) × (Unit))))))) × (Unit)))) × ((List ((Int) × ((List (UInt8)) × ((List (UInt8)) × ((Int) × ((Int) × (Unit))))))) × ((List ((List (UInt8)) × ((Int) × ((Int) × (Unit))))) × ((Int) × (((Int) × ((List (UInt8)) × ((List (UInt8)) × ((Int) × ((Int) × (Unit)))))) × (((Int) × ((Int) × (Unit))) × ((Int) × ((Int) × (Unit))))))))) :=
 ((Go.Lf.sub a1 (1 : Int) (((List.length a1) : Nat) : Int))).bind fun r1 =>
 ((Go.Fn.mark_name_c n r1)).bind fun r2 =>
 ((Go.Lf.sub a1 (Go.IntKind.wrap .i64 ((1 : Int) + r2)) (((List.length a1) : Nat) : Int))).bind fun r3 =>
 (bif (!(decide ((r2 : Int) = (0 : Int)))) then bif (!(decide ((12 : Int) < r2))) then bif (decide ((r3 : List (UInt8)) ≠ ([] : List (UInt8)))) then ((Go.Lf.idx r3 (0 : Int))).bind fun r4 =>
   ((Go.Fn.mark_blanked_c n (((UInt8.toNat r4) : Nat) : Int))).bind fun r5 =>
   some ((!r5), a0)
   else some (false, a0)
   else some (true, a0)
   else some (true, a0)).bind fun r6 =>
 bif r6.1 then ((Go.Lf.sub a1 (1 : Int) (Go.IntKind.wrap .i64 ((1 : Int) + (Min.min r2 (12 : Int)))))).bind fun r7 =>
 ((Go.Fn.mark_wrong_c n (41 : Int) r6.2.2.2.2.2.2.2.1 (2 : Int) r7)).bind fun r8 =>
 some (r8, r6.2)
 else ((Go.Fn.mark_lexer__end_c n r6.2)).bind fun r9 =>
 bif (Option.isSome r9.1) then some (r9.1, r9.2)
 else ((Go.Lf.sub a1 (1 : Int) (Go.IntKind.wrap .i64 ((1 : Int) + r2)))).bind fun r10 =>
 ((Go.Fn.strings_Trim_c n r3 ((32 : UInt8) :: ((9 : UInt8) :: ([] : List (UInt8)))))).bind fun r11 =>
 ((Go.Lf.app (56 : Nat) r9.2.1 (((1 : Int), (r10, (r11, (r9.2.2.2.2.2.2.2.1, ((1 : Int), ()))))) :: ([] : List ((Int) × ((List (UInt8)) × ((List (UInt8)) × ((Int) × ((Int) × (Unit)))))))))).bind fun r12 =>
 some ((none : Option ((Int) × (((Int) × ((Int) × ((Int) × ((Int) × ((List (UInt8)) × ((List ((List (UInt8)) × ((Int) × (Unit)))) × (Unit))))))) × (Unit)))), (r12, r9.2.2))
theorem mark_lexer__directive_le (n : Nat) (a0 : (List ((Int) × ((List (UInt8)) × ((List (UInt8)) × ((Int) × ((Int) × (Unit))))))) × ((List ((List (UInt8)) × ((Int) × ((Int) × (Unit))))) × ((Int) × (((Int) × ((List (UInt8)) × ((List (UInt8)) × ((Int) × ((Int) × (Unit)))))) × (((Int) × ((Int) × (Unit))) × ((Int) × ((Int) × (Unit)))))))) (a1 : List (UInt8)) : Go.Lf.Le (mark_lexer__directive_c n a0 a1) (mark_lexer__directive a0 a1) := by
  unfold mark_lexer__directive_c mark_lexer__directive
  repeat' first
    | with_reducible exact Go.Fn.mark_blanked_le n _
    | with_reducible exact Go.Fn.mark_lexer__end_le n _
    | with_reducible exact Go.Fn.mark_name_le n _
    | with_reducible exact Go.Fn.mark_wrong_le n _ _ _ _
    | with_reducible exact Go.Fn.strings_Trim_le n _ _
    | with_reducible refine Go.Lf.Le.bind ?_ (fun _ => ?_)
    | with_reducible refine Go.Lf.Le.cond ?_ ?_
    | with_reducible refine Go.Lf.Le.loop (fun _ => ?_)
    | with_reducible refine Go.Lf.Le.onSum (fun _ => ?_) (fun _ => ?_)
    | with_reducible exact Go.Lf.Le.refl
noncomputable def mark_lexer__wait_c (n : Nat) (a0 : (List ((Int) × ((List (UInt8)) × ((List (UInt8)) × ((Int) × ((Int) × (Unit))))))) × ((List ((List (UInt8)) × ((Int) × ((Int) × (Unit))))) × ((Int) × (((Int) × ((List (UInt8)) × ((List (UInt8)) × ((Int) × ((Int) × (Unit)))))) × (((Int) × ((Int) × (Unit))) × ((Int) × ((Int) × (Unit)))))))) (a1 : Int) : Option ((List ((Int) × ((List (UInt8)) × ((List (UInt8)) × ((Int) × ((Int) × (Unit))))))) × ((List ((List (UInt8)) × ((Int) × ((Int) × (Unit))))) × ((Int) × (((Int) × ((List (UInt8)) × ((List (UInt8)) × ((Int) × ((Int) × (Unit)))))) × (((Int) × ((Int) × (Unit))) × ((Int) × ((Int) × (Unit)))))))) :=
 (bif (decide ((a0.2.2.2.2.2.1 : Int) = (0 : Int))) then some ((decide (((a0.2.2.2.2.1.1 :: (a0.2.2.2.2.1.2.1 :: ([] : List (Int)))) : List (Int)) = ((0 : Int) :: ((0 : Int) :: ([] : List (Int)))))), a0)
   else some (false, a0)).bind fun r1 =>
 bif r1.1 then some (r1.2.1, (r1.2.2.1, (r1.2.2.2.1, (r1.2.2.2.2.1, ((r1.2.2.2.2.2.2.2.1, (a1, ())), r1.2.2.2.2.2.2)))))
 else some r1.2
theorem mark_lexer__wait_le (n : Nat) (a0 : (List ((Int) × ((List (UInt8)) × ((List (UInt8)) × ((Int) × ((Int) × (Unit))))))) × ((List ((List (UInt8)) × ((Int) × ((Int) × (Unit))))) × ((Int) × (((Int) × ((List (UInt8)) × ((List (UInt8)) × ((Int) × ((Int) × (Unit)))))) × (((Int) × ((Int) × (Unit))) × ((Int) × ((Int) × (Unit)))))))) (a1 : Int) : Go.Lf.Le (mark_lexer__wait_c n a0 a1) (mark_lexer__wait a0 a1) := by
  unfold mark_lexer__wait_c mark_lexer__wait
  repeat' first
    | with_reducible refine Go.Lf.Le.bind ?_ (fun _ => ?_)
    | with_reducible refine Go.Lf.Le.cond ?_ ?_
    | with_reducible refine Go.Lf.Le.loop (fun _ => ?_)
    | with_reducible refine Go.Lf.Le.onSum (fun _ => ?_) (fun _ => ?_)
    | with_reducible exact Go.Lf.Le.refl
noncomputable def mark_lexer__put_c (n : Nat) (a0 : (List ((Int) × ((List (UInt8)) × ((List (UInt8)) × ((Int) × ((Int) × (Unit))))))) × ((List ((List (UInt8)) × ((Int) × ((Int) × (Unit))))) × ((Int) × (((Int) × ((List (UInt8)) × ((List (UInt8)) × ((Int) × ((Int) × (Unit)))))) × (((Int) × ((Int) × (Unit))) × ((Int) × ((Int) × (Unit)))))))) (a1 : List (UInt8)) (a2 : Int) (a3 : Int) : Option ((List ((Int) × ((List (UInt8)) × ((List (UInt8)) × ((Int) × ((Int) × (Unit))))))) × ((List ((List (UInt8)) × ((Int) × ((Int) × (Unit))))) × ((Int) × (((Int) × ((List (UInt8)) × ((List (UInt8)) × ((Int) × ((Int) × (Unit)))))) × (((Int) × ((Int) × (Unit))) × ((Int) × ((Int) × (Unit)))))))) :=
 (bif (decide ((a0.2.2.2.1.2.2.1 : List (UInt8)) = ([] : List (UInt8)))) then some (a0.1, (a0.2.1, (a0.2.2.1, (((6 : Int), (([] : List (UInt8)), (([] : List (UInt8)), (a2, (a3, ()))))), a0.2.2.2.2))))
   else some a0).bind fun r1 =>
 ((Go.Lf.cat r1.2.2.2.1.2.2.1 a1)).bind fun r2 =>
 some (r1.1, (r1.2.1, (r1.2.2.1, ((r1.2.2.2.1.1, (r1.2.2.2.1.2.1, (r2, r1.2.2.2.1.2.2.2))), r1.2.2.2.2))))
theorem mark_lexer__put_le (n : Nat) (a0 : (List ((Int) × ((List (UInt8)) × ((List (UInt8)) × ((Int) × ((Int) × (Unit))))))) × ((List ((List (UInt8)) × ((Int) × ((Int) × (Unit))))) × ((Int) × (((Int) × ((List (UInt8)) × ((List (UInt8)) × ((Int) × ((Int) × (Unit)))))) × (((Int) × ((Int) × (Unit))) × ((Int) × ((Int) × (Unit)))))))) (a1 : List (UInt8)) (a2 : Int) (a3 : Int) : Go.Lf.Le (mark_lexer__put_c n a0 a1 a2 a3) (mark_lexer__put a0 a1 a2 a3) := by
  unfold mark_lexer__put_c mark_lexer__put
  repeat' first
    | with_reducible refine Go.Lf.Le.bind ?_ (fun _ => ?_)
    | with_reducible refine Go.Lf.Le.cond ?_ ?_
    | with_reducible refine Go.Lf.Le.loop (fun _ => ?_)
    | with_reducible refine Go.Lf.Le.onSum (fun _ => ?_) (fun _ => ?_)
    | with_reducible exact Go.Lf.Le.refl
noncomputable def mark_lexer__settle_c (n : Nat) (a0 : (List ((Int) × ((List (UInt8)) × ((List (UInt8)) × ((Int) × ((Int) × (Unit))))))) × ((List ((List (UInt8)) × ((Int) × ((Int) × (Unit))))) × ((Int) × (((Int) × ((List (UInt8)) × ((List (UInt8)) × ((Int) × ((Int) × (Unit)))))) × (((Int) × ((Int) × (Unit))) × ((Int) × ((Int) × (Unit)))))))) : Option ((List ((Int) × ((List (UInt8)) × ((List (UInt8)) × ((Int) × ((Int) × (Unit))))))) × ((List ((List (UInt8)) × ((Int) × ((Int) × (Unit))))) × ((Int) × (((Int) × ((List (UInt8)) × ((List (UInt8)) × ((Int) × ((Int) × (Unit)))))) × (((Int) × ((Int) × (Unit))) × ((Int) × ((Int) × (Unit)))))))) :=
 (bif (!(decide (((a0.2.2.2.2.1.1 :: (a0.2.2.2.2.1.2.1 :: ([] : List (Int)))) : List (Int)) = ((0 : Int) :: ((0 : Int) :: ([] : List (Int))))))) then ((Go.Fn.mark_lexer__put_c n a0 ((32 : UInt8) :: ([] : List (UInt8))) a0.2.2.2.2.1.1 a0.2.2.2.2.1.2.1)).bind fun r1 =>
   some (r1.1, (r1.2.1, (r1.2.2.1, (r1.2.2.2.1, (((0 : Int), ((0 : Int), ())), r1.2.2.2.2.2)))))
   else some a0).bind fun r2 =>
 some (r2.1, (r2.2.1, (r2.2.2.1, (r2.2.2.2.1, (r2.2.2.2.2.1, ((0 : Int), r2.2.2.2.2.2.2))))))
theorem mark_lexer__settle_le (n : Nat) (a0 : (List ((Int) × ((List (UInt8)) × ((List (UInt8)) × ((Int) × ((Int) × (Unit))))))) × ((List ((List (UInt8)) × ((Int) × ((Int) × (Unit))))) × ((Int) × (((Int) × ((List (UInt8)) × ((List (UInt8)) × ((Int) × ((Int) × (Unit)))))) × (((Int) × ((Int) × (Unit))) × ((Int) × ((Int) × (Unit)))))))) : Go.Lf.Le (mark_lexer__settle_c n a0) (mark_lexer__settle a0) := by
  unfold mark_lexer__settle_c mark_lexer__settle
  repeat' first
    | with_reducible exact Go.Fn.mark_lexer__put_le n _ _ _ _
    | with_reducible refine Go.Lf.Le.bind ?_ (fun _ => ?_)
    | with_reducible refine Go.Lf.Le.cond ?_ ?_
    | with_reducible refine Go.Lf.Le.loop (fun _ => ?_)
    | with_reducible refine Go.Lf.Le.onSum (fun _ => ?_) (fun _ => ?_)
    | with_reducible exact Go.Lf.Le.refl
noncomputable def mark_lexer__escape_c (n : Nat) (a0 : (List ((Int) × ((List (UInt8)) × ((List (UInt8)) × ((Int) × ((Int) × (Unit))))))) × ((List ((List (UInt8)) × ((Int) × ((Int) × (Unit))))) × ((Int) × (((Int) × ((List (UInt8)) × ((List (UInt8)) × ((Int) × ((Int) × (Unit)))))) × (((Int) × ((Int) × (Unit))) × ((Int) × ((Int) × (Unit)))))))) (a1 : List (UInt8)) (a2 : Int) : Option ((Int) × ((Option ((Int) × (((Int) × ((Int) × ((Int) × ((Int) × ((List (UInt8)) × ((List ((List (UInt8)) × ((Int) × (Unit)))) × (Unit))))))) × (Unit)))) × ((List ((Int) × ((List (UInt8)) × ((List (UInt8)) × ((Int) × ((Int) × (Unit))))))) × ((List ((List (UInt8)) × ((Int) × ((Int) × (Unit))))) × ((Int) × (((Int) × ((List (UInt8)) × ((List (UInt8)) × ((Int) × ((Int) × (Unit)))))) × (((Int) × ((Int) × (Unit))) × ((Int) × ((Int) × (Unit)))))))))) :=
 (bif (decide ((Go.IntKind.wrap .i64 (a2 + (1 : Int))) < (((List.length a1) : Nat) : Int))) then ((Go.Lf.idx a1 (Go.IntKind.wrap .i64 (a2 + (1 : Int))))).bind fun r1 =>
   ((Go.Fn.strings_IndexByte_c n ((92 : UInt8) :: ((123 : UInt8) :: ((125 : UInt8) :: ((124 : UInt8) :: ((46 : UInt8) :: ((35 : UInt8) :: ([] : List (UInt8)))))))) (((UInt8.toNat r1) : Nat) : Int))).bind fun r2 =>
   some ((decide ((0 : Int) ≤ r2)), a0)
   else some (false, a0)).bind fun r3 =>
 bif r3.1 then ((Go.Fn.mark_lexer__settle_c n r3.2)).bind fun r4 =>
 ((Go.Lf.sub a1 (Go.IntKind.wrap .i64 (a2 + (1 : Int))) (Go.IntKind.wrap .i64 (a2 + (2 : Int))))).bind fun r5 =>
 ((Go.Fn.mark_lexer__put_c n r4 r5 r4.2.2.2.2.2.2.1 (Go.IntKind.wrap .i64 (a2 + (1 : Int))))).bind fun r6 =>
 some ((2 : Int), ((none : Option ((Int) × (((Int) × ((Int) × ((Int) × ((Int) × ((List (UInt8)) × ((List ((List (UInt8)) × ((Int) × (Unit)))) × (Unit))))))) × (Unit)))), r6))
 else (bif (decide ((Go.IntKind.wrap .i64 (a2 + (1 : Int))) < (((List.length a1) : Nat) : Int))) then ((Go.Lf.sub a1 (Go.IntKind.wrap .i64 (a2 + (1 : Int))) (((List.length a1) : Nat) : Int))).bind fun r7 =>
   ((Go.Fn.utf8_DecodeRuneInString_c n r7)).bind fun r8 =>
   ((Go.Lf.sub a1 (Go.IntKind.wrap .i64 (a2 + (1 : Int))) (Go.IntKind.wrap .i64 ((Go.IntKind.wrap .i64 (a2 + (1 : Int))) + r8.2)))).bind fun r9 =>
   some (r9, r3.2)
   else some (([] : List (UInt8)), r3.2)).bind fun r10 =>
 ((Go.Fn.mark_wrong_c n (42 : Int) r10.2.2.2.2.2.2.2.1 (Go.IntKind.wrap .i64 (a2 + (1 : Int))) r10.1)).bind fun r11 =>
 some ((0 : Int), (r11, r10.2))
theorem mark_lexer__escape_le (n : Nat) (a0 : (List ((Int) × ((List (UInt8)) × ((List (UInt8)) × ((Int) × ((Int) × (Unit))))))) × ((List ((List (UInt8)) × ((Int) × ((Int) × (Unit))))) × ((Int) × (((Int) × ((List (UInt8)) × ((List (UInt8)) × ((Int) × ((Int) × (Unit)))))) × (((Int) × ((Int) × (Unit))) × ((Int) × ((Int) × (Unit)))))))) (a1 : List (UInt8)) (a2 : Int) : Go.Lf.Le (mark_lexer__escape_c n a0 a1 a2) (mark_lexer__escape a0 a1 a2) := by
  unfold mark_lexer__escape_c mark_lexer__escape
  repeat' first
    | with_reducible exact Go.Fn.mark_lexer__put_le n _ _ _ _
    | with_reducible exact Go.Fn.mark_lexer__settle_le n _
    | with_reducible exact Go.Fn.mark_wrong_le n _ _ _ _
    | with_reducible exact Go.Fn.strings_IndexByte_le n _ _
    | with_reducible exact Go.Fn.utf8_DecodeRuneInString_le n _
    | with_reducible refine Go.Lf.Le.bind ?_ (fun _ => ?_)
    | with_reducible refine Go.Lf.Le.cond ?_ ?_
    | with_reducible refine Go.Lf.Le.loop (fun _ => ?_)
    | with_reducible refine Go.Lf.Le.onSum (fun _ => ?_) (fun _ => ?_)
    | with_reducible exact Go.Lf.Le.refl
noncomputable def mark_lexer__token_c (n : Nat) (a0 : (List ((Int) × ((List (UInt8)) × ((List (UInt8)) × ((Int) × ((Int) × (Unit))))))) × ((List ((List (UInt8)) × ((Int) × ((Int) × (Unit))))) × ((Int) × (((Int) × ((List (UInt8)) × ((List (UInt8)) × ((Int) × ((Int) × (Unit)))))) × (((Int) × ((Int) × (Unit))) × ((Int) × ((Int) × (Unit)))))))) (a1 : Int) (a2 : List (UInt8)) (a3 : Int) : Option ((List ((Int) × ((List (UInt8)) × ((List (UInt8)) × ((Int) × ((Int) × (Unit))))))) × ((List ((List (UInt8)) × ((Int) × ((Int) × (Unit))))) × ((Int) × (((Int) × ((List (UInt8)) × ((List (UInt8)) × ((Int) × ((Int) × (Unit)))))) × (((Int) × ((Int) × (Unit))) × ((Int) × ((Int) × (Unit)))))))) :=
 ((Go.Fn.mark_lexer__settle_c n a0)).bind fun r1 =>
 ((Go.Fn.mark_lexer__flush_c n r1)).bind fun r2 =>
 ((Go.Lf.app (56 : Nat) r2.1 ((a1, (a2, (([] : List (UInt8)), (r2.2.2.2.2.2.2.1, (a3, ()))))) :: ([] : List ((Int) × ((List (UInt8)) × ((List (UInt8)) × ((Int) × ((Int) × (Unit)))))))))).bind fun r3 =>
 some (r3, r2.2)
theorem mark_lexer__token_le (n : Nat) (a0 : (List ((Int) × ((List (UInt8)) × ((List (UInt8)) × ((Int) × ((Int) × (Unit))))))) × ((List ((List (UInt8)) × ((Int) × ((Int) × (Unit))))) × ((Int) × (((Int) × ((List (UInt8)) × ((List (UInt8)) × ((Int) × ((Int) × (Unit)))))) × (((Int) × ((Int) × (Unit))) × ((Int) × ((Int) × (Unit)))))))) (a1 : Int) (a2 : List (UInt8)) (a3 : Int) : Go.Lf.Le (mark_lexer__token_c n a0 a1 a2 a3) (mark_lexer__token a0 a1 a2 a3) := by
  unfold mark_lexer__token_c mark_lexer__token
  repeat' first
    | with_reducible exact Go.Fn.mark_lexer__flush_le n _
    | with_reducible exact Go.Fn.mark_lexer__settle_le n _
    | with_reducible refine Go.Lf.Le.bind ?_ (fun _ => ?_)
    | with_reducible refine Go.Lf.Le.cond ?_ ?_
    | with_reducible refine Go.Lf.Le.loop (fun _ => ?_)
    | with_reducible refine Go.Lf.Le.onSum (fun _ => ?_) (fun _ => ?_)
    | with_reducible exact Go.Lf.Le.refl
noncomputable def mark_lexer__brace_c (n : Nat) (a0 : (List ((Int) × ((List (UInt8)) × ((List (UInt8)) × ((Int) × ((Int) × (Unit))))))) × ((List ((List (UInt8)) × ((Int) × ((Int) × (Unit))))) × ((Int) × (((Int) × ((List (UInt8)) × ((List (UInt8)) × ((Int) × ((Int) × (Unit)))))) × (((Int) × ((Int) × (Unit))) × ((Int) × ((Int) × (Unit)))))))) (a1 : List (UInt8)) (a2 : Int) : Option ((Int) × ((Option ((Int) × (((Int) × ((Int) × ((Int) × ((Int) × ((List (UInt8)) × ((List ((List (UInt8)) × ((Int) × (Unit)))) × (Unit))))))) × (Unit)))) × ((List ((Int) × ((List (UInt8)) × ((List (UInt8)) × ((Int) × ((Int) × (Unit))))))) × ((List ((List (UInt8)) × ((Int) × ((Int) × (Unit))))) × ((Int) × (((Int) × ((List (UInt8)) × ((List (UInt8)) × ((Int) × ((Int) × (Unit)))))) × (((Int) × ((Int) × (Unit))) × ((Int) × ((Int) × (Unit)))))))))) :=
 ((Go.Lf.sub a1 (Go.IntKind.wrap .i64 (a2 + (1 : Int))) (((List.length a1) : Nat) : Int))).bind fun r1 =>
 ((Go.Fn.mark_name_c n r1)).bind fun r2 =>
 (bif (!(decide ((r2 : Int) = (0 : Int)))) then bif (!(decide ((12 : Int) < r2))) then bif (decide ((Go.IntKind.wrap .i64 ((Go.IntKind.wrap .i64 (a2 + (1 : Int))) + r2)) < (((List.length a1) : Nat) : Int))) then ((Go.Lf.idx a1 (Go.IntKind.wrap .i64 ((Go.IntKind.wrap .i64 (a2 + (1 : Int))) + r2)))).bind fun r3 =>
   ((Go.Fn.mark_blanked_c n (((UInt8.toNat r3) : Nat) : Int))).bind fun r4 =>
   bif (!r4) then ((Go.Lf.idx a1 (Go.IntKind.wrap .i64 ((Go.IntKind.wrap .i64 (a2 + (1 : Int))) + r2)))).bind fun r5 =>
   bif (decide (((((UInt8.toNat r5) : Nat) : Int) : Int) ≠ (124 : Int))) then ((Go.Lf.idx a1 (Go.IntKind.wrap .i64 ((Go.IntKind.wrap .i64 (a2 + (1 : Int))) + r2)))).bind fun r6 =>
   some ((decide (((((UInt8.toNat r6) : Nat) : Int) : Int) ≠ (125 : Int))), a0)
   else some (false, a0)
   else some (false, a0)
   else some (false, a0)
   else some (true, a0)
   else some (true, a0)).bind fun r7 =>
 bif r7.1 then ((Go.Fn.mark_wrong_c n (43 : Int) r7.2.2.2.2.2.2.2.1 (Go.IntKind.wrap .i64 (a2 + (1 : Int))) ([] : List (UInt8)))).bind fun r8 =>
 some ((0 : Int), (r8, r7.2))
 else ((Go.Lf.sub a1 (Go.IntKind.wrap .i64 (a2 + (1 : Int))) (Go.IntKind.wrap .i64 ((Go.IntKind.wrap .i64 (a2 + (1 : Int))) + r2)))).bind fun r9 =>
 bif (decide ((16 : Int) ≤ (((List.length r7.2.2.1) : Nat) : Int))) then ((Go.Fn.mark_wrong_c n (46 : Int) r7.2.2.2.2.2.2.2.1 (Go.IntKind.wrap .i64 (a2 + (1 : Int))) r9)).bind fun r10 =>
 some ((0 : Int), (r10, r7.2))
 else ((Go.Fn.mark_lexer__token_c n r7.2 (3 : Int) r9 (Go.IntKind.wrap .i64 (a2 + (1 : Int))))).bind fun r11 =>
 ((Go.Lf.app (32 : Nat) r11.2.1 ((r9, (r11.2.2.2.2.2.2.1, ((Go.IntKind.wrap .i64 (a2 + (1 : Int))), ()))) :: ([] : List ((List (UInt8)) × ((Int) × ((Int) × (Unit)))))))).bind fun r12 =>
 some ((Go.IntKind.wrap .i64 ((1 : Int) + r2)), ((none : Option ((Int) × (((Int) × ((Int) × ((Int) × ((Int) × ((List (UInt8)) × ((List ((List (UInt8)) × ((Int) × (Unit)))) × (Unit))))))) × (Unit)))), (r11.1, (r12, (r11.2.2.1, (r11.2.2.2.1, (r11.2.2.2.2.1, ((1 : Int), r11.2.2.2.2.2.2))))))))
theorem mark_lexer__brace_le (n : Nat) (a0 : (List ((Int) × ((List (UInt8)) × ((List (UInt8)) × ((Int) × ((Int) × (Unit))))))) × ((List ((List (UInt8)) × ((Int) × ((Int) × (Unit))))) × ((Int) × (((Int) × ((List (UInt8)) × ((List (UInt8)) × ((Int) × ((Int) × (Unit)))))) × (((Int) × ((Int) × (Unit))) × ((Int) × ((Int) × (Unit)))))))) (a1 : List (UInt8)) (a2 : Int) : Go.Lf.Le (mark_lexer__brace_c n a0 a1 a2) (mark_lexer__brace a0 a1 a2) := by
  unfold mark_lexer__brace_c mark_lexer__brace
  repeat' first
    | with_reducible exact Go.Fn.mark_blanked_le n _
    | with_reducible exact Go.Fn.mark_lexer__token_le n _ _ _ _
    | with_reducible exact Go.Fn.mark_name_le n _
    | with_reducible exact Go.Fn.mark_wrong_le n _ _ _ _
    | with_reducible refine Go.Lf.Le.bind ?_ (fun _ => ?_)
    | with_reducible refine Go.Lf.Le.cond ?_ ?_
    | with_reducible refine Go.Lf.Le.loop (fun _ => ?_)
    | with_reducible refine Go.Lf.Le.onSum (fun _ => ?_) (fun _ => ?_)
    | with_reducible exact Go.Lf.Le.refl
noncomputable def mark_lexer__char_c (n : Nat) (a0 : (List ((Int) × ((List (UInt8)) × ((List (UInt8)) × ((Int) × ((Int) × (Unit))))))) × ((List ((List (UInt8)) × ((Int) × ((Int) × (Unit))))) × ((Int) × (((Int) × ((List (UInt8)) × ((List (UInt8)) × ((Int) × ((Int) × (Unit)))))) × (((Int) × ((Int) × (Unit))) × ((Int) × ((Int) × (Unit)))))))) (a1 : List (UInt8)) (a2 : Int) : Option ((Int) × ((Option ((Int) × (((Int) × ((Int) × ((Int) × ((Int) × ((List (UInt8)) × ((List ((List (UInt8)) × ((Int) × (Unit)))) × (Unit))))))) × (Unit)))) × ((List ((Int) × ((List (UInt8)) × ((List (UInt8)) × ((Int) × ((Int) × (Unit))))))) × ((List ((List (UInt8)) × ((Int) × ((Int) × (Unit))))) × ((Int) × (((Int) × ((List (UInt8)) × ((List (UInt8)) × ((Int) × ((Int) × (Unit)))))) × (((Int) × ((Int) × (Unit))) × ((Int) × ((Int) × (Unit)))))))))) :=
 ((Go.Lf.idx a1 a2)).bind fun r1 =>
 ((Go.Fn.mark_blanked_c n (((UInt8.toNat r1) : Nat) : Int))).bind fun r2 =>
 bif r2 then ((Go.Fn.mark_lexer__wait_c n a0 (Go.IntKind.wrap .i64 (a2 + (1 : Int))))).bind fun r3 =>
 some ((1 : Int), ((none : Option ((Int) × (((Int) × ((Int) × ((Int) × ((Int) × ((List (UInt8)) × ((List ((List (UInt8)) × ((Int) × (Unit)))) × (Unit))))))) × (Unit)))), r3))
 else bif (decide (((((UInt8.toNat r1) : Nat) : Int) : Int) = (92 : Int))) then ((Go.Fn.mark_lexer__escape_c n a0 a1 a2)).bind fun r4 =>
 some (r4.1, (r4.2.1, r4.2.2))
 else bif (decide (((((UInt8.toNat r1) : Nat) : Int) : Int) = (123 : Int))) then ((Go.Fn.mark_lexer__brace_c n a0 a1 a2)).bind fun r5 =>
 some (r5.1, (r5.2.1, r5.2.2))
 else bif (decide (((((UInt8.toNat r1) : Nat) : Int) : Int) = (125 : Int))) then bif (decide (((((List.length a0.2.1) : Nat) : Int) : Int) = (0 : Int))) then ((Go.Fn.mark_wrong_c n (44 : Int) a0.2.2.2.2.2.2.1 (Go.IntKind.wrap .i64 (a2 + (1 : Int))) ([] : List (UInt8)))).bind fun r6 =>
 some ((0 : Int), (r6, a0))
 else ((Go.Fn.mark_lexer__token_c n a0 (5 : Int) ([] : List (UInt8)) (Go.IntKind.wrap .i64 (a2 + (1 : Int))))).bind fun r7 =>
 ((Go.Lf.sub r7.2.1 (0 : Int) (Go.IntKind.wrap .i64 ((((List.length a0.2.1) : Nat) : Int) - (1 : Int))))).bind fun r8 =>
 some ((1 : Int), ((none : Option ((Int) × (((Int) × ((Int) × ((Int) × ((Int) × ((List (UInt8)) × ((List ((List (UInt8)) × ((Int) × (Unit)))) × (Unit))))))) × (Unit)))), (r7.1, (r8, r7.2.2))))
 else (bif (decide (((((UInt8.toNat r1) : Nat) : Int) : Int) = (124 : Int))) then some ((decide ((0 : Int) < (((List.length a0.2.1) : Nat) : Int))), a0)
   else some (false, a0)).bind fun r9 =>
 bif r9.1 then ((Go.Fn.mark_lexer__token_c n r9.2 (4 : Int) ([] : List (UInt8)) (Go.IntKind.wrap .i64 (a2 + (1 : Int))))).bind fun r10 =>
 some ((1 : Int), ((none : Option ((Int) × (((Int) × ((Int) × ((Int) × ((Int) × ((List (UInt8)) × ((List ((List (UInt8)) × ((Int) × (Unit)))) × (Unit))))))) × (Unit)))), r10))
 else ((Go.Lf.sub a1 a2 (((List.length a1) : Nat) : Int))).bind fun r11 =>
 ((Go.Fn.utf8_DecodeRuneInString_c n r11)).bind fun r12 =>
 ((Go.Fn.mark_lexer__settle_c n r9.2)).bind fun r13 =>
 ((Go.Lf.sub a1 a2 (Go.IntKind.wrap .i64 (a2 + r12.2)))).bind fun r14 =>
 ((Go.Fn.mark_lexer__put_c n r13 r14 r13.2.2.2.2.2.2.1 (Go.IntKind.wrap .i64 (a2 + (1 : Int))))).bind fun r15 =>
 some (r12.2, ((none : Option ((Int) × (((Int) × ((Int) × ((Int) × ((Int) × ((List (UInt8)) × ((List ((List (UInt8)) × ((Int) × (Unit)))) × (Unit))))))) × (Unit)))), r15))
theorem mark_lexer__char_le (n : Nat) (a0 : (List ((Int) × ((List (UInt8)) × ((List (UInt8)) × ((Int) × ((Int) × (Unit))))))) × ((List ((List (UInt8)) × ((Int) × ((Int) × (Unit))))) × ((Int) × (((Int) × ((List (UInt8)) × ((List (UInt8)) × ((Int) × ((Int) × (Unit)))))) × (((Int) × ((Int) × (Unit))) × ((Int) × ((Int) × (Unit)))))))) (a1 : List (UInt8)) (a2 : Int) : Go.Lf.Le (mark_lexer__char_c n a0 a1 a2) (mark_lexer__char a0 a1 a2) := by
  unfold mark_lexer__char_c mark_lexer__char
  repeat' first
    | with_reducible exact Go.Fn.mark_blanked_le n _
    | with_reducible exact Go.Fn.mark_lexer__brace_le n _ _ _
    | with_reducible exact Go.Fn.mark_lexer__escape_le n _ _ _
    | with_reducible exact Go.Fn.mark_lexer__put_le n _ _ _ _
    | with_reducible exact Go.Fn.mark_lexer__settle_le n _
    | with_reducible exact Go.Fn.mark_lexer__token_le n _ _ _ _
    | with_reducible exact Go.Fn.mark_lexer__wait_le n _ _
    | with_reducible exact Go.Fn.mark_wrong_le n _ _ _ _
    | with_reducible exact Go.Fn.utf8_DecodeRuneInString_le n _
    | with_reducible refine Go.Lf.Le.bind ?_ (fun _ => ?_)
    | with_reducible refine Go.Lf.Le.cond ?_ ?_
    | with_reducible refine Go.Lf.Le.loop (fun _ => ?_)
    | with_reducible refine Go.Lf.Le.onSum (fun _ => ?_) (fun _ => ?_)
    | with_reducible exact Go.Lf.Le.refl
noncomputable def mark_lexer__text_c (n : Nat) (a0 : (List ((Int) × ((List (UInt8)) × ((List (UInt8)) × ((Int) × ((Int) × (Unit))))))) × ((List ((List (UInt8)) × ((Int) × ((Int) × (Unit))))) × ((Int) × (((Int) × ((List (UInt8)) × ((List (UInt8)) × ((Int) × ((Int) × (Unit)))))) × (((Int) × ((Int) × (Unit))) × ((Int) × ((Int) × (Unit)))))))) (a1 : List (UInt8)) : Option ((Option ((Int) × (((Int) × ((Int) × ((Int) × ((Int) × ((List (UInt8)) × ((List ((List (UInt8)) × ((Int) × (Unit)))) × (Unit))))))) × (Unit)))) × ((List ((Int) × ((List (UInt8)) × ((List (UInt8)) × ((Int) × ((Int) × (Unit))))))) × ((List ((List (UInt8)) × ((Int) × ((Int) × (Unit))))) × ((Int) × (((Int) × ((List (UInt8)) × ((List (UInt8)) × ((Int) × ((Int) × (Unit)))))) × (((Int) × ((Int) × (Unit))) × ((Int) × ((Int) × (Unit))))))))) :=
 (bif (decide ((a0.2.2.1 : Int) = (0 : Int))) then some (a0.1, (a0.2.1, ((1 : Int), (a0.2.2.2.1, (a0.2.2.2.2.1, ((1 : Int), a0.2.2.2.2.2.2))))))
   else some a0).bind fun r1 =>
 (Go.Lf.loopF n (σ := (Int) × ((List ((Int) × ((List (UInt8)) × ((List (UInt8)) × ((Int) × ((Int) × (Unit))))))) × ((List ((List (UInt8)) × ((Int) × ((Int) × (Unit))))) × ((Int) × (((Int) × ((List (UInt8)) × ((List (UInt8)) × ((Int) × ((Int) × (Unit)))))) × (((Int) × ((Int) × (Unit))) × ((Int) × ((Int) × (Unit))))))))) (κ := ((List ((Int) × ((List (UInt8)) × ((List (UInt8)) × ((Int) × ((Int) × (Unit))))))) × ((List ((List (UInt8)) × ((Int) × ((Int) × (Unit))))) × ((Int) × (((Int) × ((List (UInt8)) × ((List (UInt8)) × ((Int) × ((Int) × (Unit)))))) × (((Int) × ((Int) × (Unit))) × ((Int) × ((Int) × (Unit)))))))) ⊕ ((Option ((Int) × (((Int) × ((Int) × ((Int) × ((Int) × ((List (UInt8)) × ((List ((List (UInt8)) × ((Int) × (Unit)))) × (Unit))))))) × (Unit)))) × ((List ((Int) × ((List (UInt8)) × ((List (UInt8)) × ((Int) × ((Int) × (Unit))))))) × ((List ((List (UInt8)) × ((Int) × ((Int) × (Unit))))) × ((Int) × (((Int) × ((List (UInt8)) × ((List (UInt8)) × ((Int) × ((Int) × (Unit)))))) × (((Int) × ((Int) × (Unit))) × ((Int) × ((Int) × (Unit)))))))))) (fun z2 =>
     bif (decide (z2.1 < (((List.length a1) : Nat) : Int))) then ((Go.Fn.mark_lexer__char_c n z2.2 a1 z2.1)).bind fun r3 =>
     bif (Option.isSome r3.2.1) then some (.inr (.inr (r3.2.1, r3.2.2)))
     else some (.inl ((Go.IntKind.wrap .i64 (z2.1 + r3.1)), r3.2.2))
     else some (.inr (.inl z2.2))) ((0 : Int), r1) : Option (((List ((Int) × ((List (UInt8)) × ((List (UInt8)) × ((Int) × ((Int) × (Unit))))))) × ((List ((List (UInt8)) × ((Int) × ((Int) × (Unit))))) × ((Int) × (((Int) × ((List (UInt8)) × ((List (UInt8)) × ((Int) × ((Int) × (Unit)))))) × (((Int) × ((Int) × (Unit))) × ((Int) × ((Int) × (Unit)))))))) ⊕ ((Option ((Int) × (((Int) × ((Int) × ((Int) × ((Int) × ((List (UInt8)) × ((List ((List (UInt8)) × ((Int) × (Unit)))) × (Unit))))))) × (Unit)))) × ((List ((Int) × ((List (UInt8)) × ((List (UInt8)) × ((Int) × ((Int) × (Unit))))))) × ((List ((List (UInt8)) × ((Int) × ((Int) × (Unit))))) × ((Int) × (((Int) × ((List (UInt8)) × ((List (UInt8)) × ((Int) × ((Int) × (Unit)))))) × (((Int) × ((Int) × (Unit))) × ((Int) × ((Int) × (Unit))))))))))).bind fun r4 =>
 Go.Lf.onSum r4 (fun a5 =>
 ((Go.Fn.mark_lexer__wait_c n a5 (Go.IntKind.wrap .i64 ((((List.length a1) : Nat) : Int) + (1 : Int))))).bind fun r6 =>
 some ((none : Option ((Int) × (((Int) × ((Int) × ((Int) × ((Int) × ((List (UInt8)) × ((List ((List (UInt8)) × ((Int) × (Unit)))) × (Unit))))))) × (Unit)))), r6)) (fun b7 =>
 some (b7.1, b7.2))
theorem mark_lexer__text_le (n : Nat) (a0 : (List ((Int) × ((List (UInt8)) × ((List (UInt8)) × ((Int) × ((Int) × (Unit))))))) × ((List ((List (UInt8)) × ((Int) × ((Int) × (Unit))))) × ((Int) × (((Int) × ((List (UInt8)) × ((List (UInt8)) × ((Int) × ((Int) × (Unit)))))) × (((Int) × ((Int) × (Unit))) × ((Int) × ((Int) × (Unit)))))))) (a1 : List (UInt8)) : Go.Lf.Le (mark_lexer__text_c n a0 a1) (mark_lexer__text a0 a1) := by
  unfold mark_lexer__text_c mark_lexer__text
  repeat' first
    | with_reducible exact Go.Fn.mark_lexer__char_le n _ _ _
    | with_reducible exact Go.Fn.mark_lexer__wait_le n _ _
    | with_reducible refine Go.Lf.Le.bind ?_ (fun _ => ?_)
    | with_reducible refine Go.Lf.Le.cond ?_ ?_
    | with_reducible refine Go.Lf.Le.loop (fun _ => ?_)
    | with_reducible refine Go.Lf.Le.onSum (fun _ => ?_) (fun _ => ?_)
    | with_reducible exact Go.Lf.Le.refl
noncomputable def mark_lexer__take_c (n : Nat) (a0 : (List ((Int) × ((List (UInt8)) × ((List (UInt8)) × ((Int) × ((Int) × (Unit))))))) × ((List ((List (UInt8)) × ((Int) × ((Int) × (Unit))))) × ((Int) × (((Int) × ((List (UInt8)) × ((List (UInt8)) × ((Int) × ((Int) × (Unit)))))) × (((Int) × ((Int) × (Unit))) × ((Int) × ((Int) × (Unit)))))))) (a1 : List (UInt8)) : Option ((Option ((Int) × (((Int) × ((Int) × ((Int) × ((Int) × ((List (UInt8)) × ((List ((List (UInt8)) × ((Int) × (Unit)))) × (Unit))))))) × (Unit)))) × ((List ((Int) × ((List (UInt8)) × ((List (UInt8)) × ((Int) × ((Int) × (Unit))))))) × ((List ((List (UInt8)) × ((Int) × ((Int) × (Unit))))) × ((Int) × (((Int) × ((List (UInt8)) × ((List (UInt8)) × ((Int) × ((Int) × (Unit)))))) × (((Int) × ((Int) × (Unit))) × ((Int) × ((Int) × (Unit))))))))) :=
 ((Go.Fn.mark_lexer__check_c n a0 a1)).bind fun r1 =>
 bif (Option.isSome r1.1) then some (r1.1, r1.2)
 else ((Go.Fn.strings_HasPrefix_c n a1 ((35 : UInt8) :: ([] : List (UInt8))))).bind fun r2 =>
 bif r2 then some ((none : Option ((Int) × (((Int) × ((Int) × ((Int) × ((Int) × ((List (UInt8)) × ((List ((List (UInt8)) × ((Int) × (Unit)))) × (Unit))))))) × (Unit)))), r1.2)
 else ((Go.Fn.strings_Trim_c n a1 ((32 : UInt8) :: ((9 : UInt8) :: ([] : List (UInt8)))))).bind fun r3 =>
 bif (decide ((r3 : List (UInt8)) = ([] : List (UInt8)))) then ((Go.Fn.mark_lexer__end_c n r1.2)).bind fun r4 =>
 bif (Option.isSome r4.1) then some (r4.1, r4.2)
 else ((Go.Lf.app (56 : Nat) r4.2.1 (((2 : Int), (([] : List (UInt8)), (([] : List (UInt8)), (r4.2.2.2.2.2.2.2.1, ((1 : Int), ()))))) :: ([] : List ((Int) × ((List (UInt8)) × ((List (UInt8)) × ((Int) × ((Int) × (Unit)))))))))).bind fun r5 =>
 some ((none : Option ((Int) × (((Int) × ((Int) × ((Int) × ((Int) × ((List (UInt8)) × ((List ((List (UInt8)) × ((Int) × (Unit)))) × (Unit))))))) × (Unit)))), (r5, r4.2.2))
 else ((Go.Lf.idx a1 (0 : Int))).bind fun r6 =>
 bif (decide (((((UInt8.toNat r6) : Nat) : Int) : Int) = (46 : Int))) then ((Go.Fn.mark_lexer__directive_c n r1.2 a1)).bind fun r7 =>
 some (r7.1, r7.2)
 else ((Go.Fn.mark_lexer__text_c n r1.2 a1)).bind fun r8 =>
 some (r8.1, r8.2)
theorem mark_lexer__take_le (n : Nat) (a0 : (List ((Int) × ((List (UInt8)) × ((List (UInt8)) × ((Int) × ((Int) × (Unit))))))) × ((List ((List (UInt8)) × ((Int) × ((Int) × (Unit))))) × ((Int) × (((Int) × ((List (UInt8)) × ((List (UInt8)) × ((Int) × ((Int) × (Unit)))))) × (((Int) × ((Int) × (Unit))) × ((Int) × ((Int) × (Unit)))))))) (a1 : List (UInt8)) : Go.Lf.Le (mark_lexer__take_c n a0 a1) (mark_lexer__take a0 a1) := by
  unfold mark_lexer__take_c mark_lexer__take
  repeat' first
    | with_reducible exact Go.Fn.mark_lexer__check_le n _ _
    | with_reducible exact Go.Fn.mark_lexer__directive_le n _ _
    | with_reducible exact Go.Fn.mark_lexer__end_le n _
    | with_reducible exact Go.Fn.mark_lexer__text_le n _ _
    | with_reducible exact Go.Fn.strings_HasPrefix_le n _ _
    | with_reducible exact Go.Fn.strings_Trim_le n _ _
    | with_reducible refine Go.Lf.Le.bind ?_ (fun _ => ?_)
    | with_reducible refine Go.Lf.Le.cond ?_ ?_
    | with_reducible refine Go.Lf.Le.loop (fun _ => ?_)
    | with_reducible refine Go.Lf.Le.onSum (fun _ => ?_) (fun _ => ?_)
    | with_reducible exact Go.Lf.Le.refl
noncomputable def mark_Lex_c (n : Nat) (a0 : List (UInt8)) : Option ((List ((Int) × ((List (UInt8)) × ((List (UInt8)) × ((Int) × ((Int) × (Unit))))))) × (Option ((Int) × (((Int) × ((Int) × ((Int) × ((Int) × ((List (UInt8)) × ((List ((List (UInt8)) × ((Int) × (Unit)))) × (Unit))))))) × (Unit))))) :=
 bif (decide ((65536 : Int) < (((List.length a0) : Nat) : Int))) then ((Go.Fn.mark_wrong_c n (2 : Int) (0 : Int) (0 : Int) ([] : List (UInt8)))).bind fun r1 =>
 some (([] : List ((Int) × ((List (UInt8)) × ((List (UInt8)) × ((Int) × ((Int) × (Unit))))))), r1)
 else (Go.Lf.loopF n (σ := (List (UInt8)) × ((List ((Int) × ((List (UInt8)) × ((List (UInt8)) × ((Int) × ((Int) × (Unit))))))) × ((List ((List (UInt8)) × ((Int) × ((Int) × (Unit))))) × ((Int) × (((Int) × ((List (UInt8)) × ((List (UInt8)) × ((Int) × ((Int) × (Unit)))))) × (((Int) × ((Int) × (Unit))) × ((Int) × ((Int) × (Unit))))))))) (κ := ((List ((Int) × ((List (UInt8)) × ((List (UInt8)) × ((Int) × ((Int) × (Unit))))))) × ((List ((List (UInt8)) × ((Int) × ((Int) × (Unit))))) × ((Int) × (((Int) × ((List (UInt8)) × ((List (UInt8)) × ((Int) × ((Int) × (Unit)))))) × (((Int) × ((Int) × (Unit))) × ((Int) × ((Int) × (Unit)))))))) ⊕ ((List ((Int) × ((List (UInt8)) × ((List (UInt8)) × ((Int) × ((Int) × (Unit))))))) × (Option ((Int) × (((Int) × ((Int) × ((Int) × ((Int) × ((List (UInt8)) × ((List ((List (UInt8)) × ((Int) × (Unit)))) × (Unit))))))) × (Unit)))))) (fun z2 =>
     bif (decide ((0 : Int) < (((List.length z2.1) : Nat) : Int))) then ((Go.Fn.strings_Cut_c n z2.1 ((10 : UInt8) :: ([] : List (UInt8))))).bind fun r3 =>
     ((bif (!r3.2.2) then some ((decide ((r3.2.1 : List (UInt8)) = ([] : List (UInt8)))), (z2.2.1, (z2.2.2.1, (z2.2.2.2.1, (z2.2.2.2.2.1, (z2.2.2.2.2.2.1, (z2.2.2.2.2.2.2.1, ((Go.IntKind.wrap .i64 (z2.2.2.2.2.2.2.2.1 + (1 : Int))), z2.2.2.2.2.2.2.2.2))))))))
         else some (true, (z2.2.1, (z2.2.2.1, (z2.2.2.2.1, (z2.2.2.2.2.1, (z2.2.2.2.2.2.1, (z2.2.2.2.2.2.2.1, ((Go.IntKind.wrap .i64 (z2.2.2.2.2.2.2.2.1 + (1 : Int))), z2.2.2.2.2.2.2.2.2))))))))).bind fun r4 =>
       bif r4.1 then ((Go.Fn.strings_TrimSuffix_c n r3.1 ((13 : UInt8) :: ([] : List (UInt8))))).bind fun r5 =>
       some (r5, r4.2)
       else some (r3.1, r4.2)).bind fun r6 =>
     ((Go.Fn.mark_lexer__take_c n r6.2 r6.1)).bind fun r7 =>
     bif (Option.isSome r7.1) then some (.inr (.inr (([] : List ((Int) × ((List (UInt8)) × ((List (UInt8)) × ((Int) × ((Int) × (Unit))))))), r7.1)))
     else some (.inl (r3.2.1, r7.2))
     else some (.inr (.inl z2.2))) (a0, (([] : List ((Int) × ((List (UInt8)) × ((List (UInt8)) × ((Int) × ((Int) × (Unit))))))), (([] : List ((List (UInt8)) × ((Int) × ((Int) × (Unit))))), ((0 : Int), (((0 : Int), (([] : List (UInt8)), (([] : List (UInt8)), ((0 : Int), ((0 : Int), ()))))), (((0 : Int), ((0 : Int), ())), ((0 : Int), ((0 : Int), ())))))))) : Option (((List ((Int) × ((List (UInt8)) × ((List (UInt8)) × ((Int) × ((Int) × (Unit))))))) × ((List ((List (UInt8)) × ((Int) × ((Int) × (Unit))))) × ((Int) × (((Int) × ((List (UInt8)) × ((List (UInt8)) × ((Int) × ((Int) × (Unit)))))) × (((Int) × ((Int) × (Unit))) × ((Int) × ((Int) × (Unit)))))))) ⊕ ((List ((Int) × ((List (UInt8)) × ((List (UInt8)) × ((Int) × ((Int) × (Unit))))))) × (Option ((Int) × (((Int) × ((Int) × ((Int) × ((Int) × ((List (UInt8)) × ((List ((List (UInt8)) × ((Int) × (Unit)))) × (Unit))))))) × (Unit))))))).bind fun r8 =>
 Go.Lf.onSum r8 (fun a9 =>
 ((Go.Fn.mark_lexer__end_c n a9)).bind fun r10 =>
 bif (Option.isSome r10.1) then some (([] : List ((Int) × ((List (UInt8)) × ((List (UInt8)) × ((Int) × ((Int) × (Unit))))))), r10.1)
 else some (r10.2.1, (none : Option ((Int) × (((Int) × ((Int) × ((Int) × ((Int) × ((List (UInt8)) × ((List ((List (UInt8)) × ((Int) × (Unit)))) × (Unit))))))) × (Unit)))))) (fun b11 =>
 some (b11.1, b11.2))
theorem mark_Lex_le (n : Nat) (a0 : List (UInt8)) : Go.Lf.Le (mark_Lex_c n a0) (mark_Lex a0) := by
  unfold mark_Lex_c mark_Lex
  repeat' first
    | with_reducible exact Go.Fn.mark_lexer__end_le n _
    | with_reducible exact Go.Fn.mark_lexer__take_le n _ _
    | with_reducible exact Go.Fn.mark_wrong_le n _ _ _ _
    | with_reducible exact Go.Fn.strings_Cut_le n _ _
    | with_reducible exact Go.Fn.strings_TrimSuffix_le n _ _
    | with_reducible refine Go.Lf.Le.bind ?_ (fun _ => ?_)
    | with_reducible refine Go.Lf.Le.cond ?_ ?_
    | with_reducible refine Go.Lf.Le.loop (fun _ => ?_)
    | with_reducible refine Go.Lf.Le.onSum (fun _ => ?_) (fun _ => ?_)
    | with_reducible exact Go.Lf.Le.refl
noncomputable def folioref04_Lines_c (n : Nat) (a0 : List (UInt8)) : Option (List (List (UInt8))) :=
 (Go.Lf.loopF n (σ := (Int) × ((List (List (UInt8))) × (Int))) (κ := List (List (UInt8))) (fun z1 =>
     bif (decide (z1.1 ≤ (((List.length a0) : Nat) : Int))) then ((bif (decide (z1.1 < (((List.length a0) : Nat) : Int))) then ((Go.Lf.idx a0 z1.1)).bind fun r2 =>
         some ((decide (((((UInt8.toNat r2) : Nat) : Int) : Int) ≠ (10 : Int))), z1.2.1)
         else some (false, z1.2.1)).bind fun r3 =>
       bif r3.1 then some (.inl (r3.2, z1.2.2))
       else (bif (decide ((z1.1 : Int) = (((List.length a0) : Nat) : Int))) then some ((decide ((z1.2.2 : Int) = (((List.length a0) : Nat) : Int))), r3.2)
         else some (false, r3.2)).bind fun r4 =>
       bif r4.1 then some (.inr r4.2)
       else ((bif (decide (z1.2.2 < z1.1)) then ((Go.Lf.idx a0 (Go.IntKind.wrap .i64 (z1.1 - (1 : Int))))).bind fun r5 =>
           some ((decide (((((UInt8.toNat r5) : Nat) : Int) : Int) = (13 : Int))), r4.2)
           else some (false, r4.2)).bind fun r6 =>
         bif r6.1 then some ((Go.IntKind.wrap .i64 (z1.1 - (1 : Int))), r6.2)
         else some (z1.1, r6.2)).bind fun r7 =>
       ((Go.Lf.sub a0 z1.2.2 r7.1)).bind fun r8 =>
       ((Go.Lf.app (16 : Nat) r7.2 (r8 :: ([] : List (List (UInt8)))))).bind fun r9 =>
       some (.inl (r9, (Go.IntKind.wrap .i64 (z1.1 + (1 : Int))))) : Option (((List (List (UInt8))) × (Int)) ⊕ (List (List (UInt8))))).bind fun r10 =>
     Go.Lf.onSum r10 (fun a11 =>
     some (.inl ((Go.IntKind.wrap .i64 (z1.1 + (1 : Int))), (a11.1, a11.2)))) (fun b12 =>
     some (.inr b12))
     else some (.inr z1.2.1)) ((0 : Int), (([] : List (List (UInt8))), (0 : Int))) : Option (List (List (UInt8)))).bind fun r13 =>
 some r13
theorem folioref04_Lines_le (n : Nat) (a0 : List (UInt8)) : Go.Lf.Le (folioref04_Lines_c n a0) (folioref04_Lines a0) := by
  unfold folioref04_Lines_c folioref04_Lines
  repeat' first
    | with_reducible refine Go.Lf.Le.bind ?_ (fun _ => ?_)
    | with_reducible refine Go.Lf.Le.cond ?_ ?_
    | with_reducible refine Go.Lf.Le.loop (fun _ => ?_)
    | with_reducible refine Go.Lf.Le.onSum (fun _ => ?_) (fun _ => ?_)
    | with_reducible exact Go.Lf.Le.refl
noncomputable def folioref04_lexer__fail_c (n : Nat) (a0 : (List ((Int) × ((List (UInt8)) × ((List (UInt8)) × ((Int) × ((Int) × (Unit))))))) × (((Int) × ((Int) × ((Int) × ((List (UInt8)) × (Unit))))) × ((Bool) × ((List ((Int) × ((List (UInt8)) × ((List (UInt8)) × ((Int) × ((Int) × (Unit))))))) × (((Int) × ((List (UInt8)) × ((List (UInt8)) × ((Int) × ((Int) × (Unit)))))) × ((List (Int)) × (((Int) × ((List (UInt8)) × ((List (UInt8)) × ((Int) × ((Int) × (Unit)))))) × ((Bool) × (Unit))))))))) (a1 : Int) (a2 : Int) (a3 : Int) (a4 : List (UInt8)) : Option ((List ((Int) × ((List (UInt8)) × ((List (UInt8)) × ((Int) × ((Int) × (Unit))))))) × (((Int) × ((Int) × ((Int) × ((List (UInt8)) × (Unit))))) × ((Bool) × ((List ((Int) × ((List (UInt8)) × ((List (UInt8)) × ((Int) × ((Int) × (Unit))))))) × (((Int) × ((List (UInt8)) × ((List (UInt8)) × ((Int) × ((Int) × (Unit)))))) × ((List (Int)) × (((Int) × ((List (UInt8)) × ((List (UInt8)) × ((Int) × ((Int) × (Unit)))))) × ((Bool) × (Unit))))))))) :=
 bif (decide ((a0.2.1.1 : Int) = (0 : Int))) then some (a0.1, ((a1, (a2, (a3, (a4, ())))), a0.2.2))
 else some a0
theorem folioref04_lexer__fail_le (n : Nat) (a0 : (List ((Int) × ((List (UInt8)) × ((List (UInt8)) × ((Int) × ((Int) × (Unit))))))) × (((Int) × ((Int) × ((Int) × ((List (UInt8)) × (Unit))))) × ((Bool) × ((List ((Int) × ((List (UInt8)) × ((List (UInt8)) × ((Int) × ((Int) × (Unit))))))) × (((Int) × ((List (UInt8)) × ((List (UInt8)) × ((Int) × ((Int) × (Unit)))))) × ((List (Int)) × (((Int) × ((List (UInt8)) × ((List (UInt8)) × ((Int) × ((Int) × (Unit)))))) × ((Bool) × (Unit))))))))) (a1 : Int) (a2 : Int) (a3 : Int) (a4 : List (UInt8)) : Go.Lf.Le (folioref04_lexer__fail_c n a0 a1 a2 a3 a4) (folioref04_lexer__fail a0 a1 a2 a3 a4) := by
  unfold folioref04_lexer__fail_c folioref04_lexer__fail
  repeat' first
    | with_reducible refine Go.Lf.Le.bind ?_ (fun _ => ?_)
    | with_reducible refine Go.Lf.Le.cond ?_ ?_
    | with_reducible refine Go.Lf.Le.loop (fun _ => ?_)
    | with_reducible refine Go.Lf.Le.onSum (fun _ => ?_) (fun _ => ?_)
    | with_reducible exact Go.Lf.Le.refl
noncomputable def folioref02_Chars_c (n : Nat) (a0 : List (UInt8)) : Option (List ((Int) × ((Int) × ((Int) × ((Bool) × (Unit)))))) :=
 (Go.Lf.loopF n (σ := (List ((Int) × ((Int) × ((Int) × ((Bool) × (Unit)))))) × ((List (UInt8)) × (Int))) (κ := List ((Int) × ((Int) × ((Int) × ((Bool) × (Unit)))))) (fun z1 =>
     bif (decide (z1.2.2 < (((List.length z1.2.1) : Nat) : Int))) then ((Go.Lf.app (32 : Nat) z1.1 (((Go.Lf.runeAt z1.2.1 z1.2.2), (z1.2.2, ((0 : Int), (false, ())))) :: ([] : List ((Int) × ((Int) × ((Int) × ((Bool) × (Unit))))))))).bind fun r2 =>
     some (.inl (r2, (z1.2.1, (z1.2.2 + (Go.Lf.runeW z1.2.1 z1.2.2)))))
     else some (.inr z1.1)) (([] : List ((Int) × ((Int) × ((Int) × ((Bool) × (Unit)))))), (a0, (0 : Int))) : Option (List ((Int) × ((Int) × ((Int) × ((Bool) × (Unit))))))).bind fun r3 =>
 (Go.Lf.loopF n (σ := (Int) × (List ((Int) × ((Int) × ((Int) × ((Bool) × (Unit))))))) (κ := List ((Int) × ((Int) × ((Int) × ((Bool) × (Unit)))))) (fun z4 =>
     bif (decide (z4.1 < (((List.length z4.2) : Nat) : Int))) then ((bif (decide ((Go.IntKind.wrap .i64 (z4.1 + (1 : Int))) < (((List.length z4.2) : Nat) : Int))) then ((Go.Lf.chk (List.length z4.2) (Go.IntKind.wrap .i64 (z4.1 + (1 : Int))))).bind fun r5 =>
         ((Go.Lf.nth z4.2 r5)).bind fun r6 =>
         some (z4.2, r6.2.1)
         else some (z4.2, (((List.length a0) : Nat) : Int))).bind fun r7 =>
       ((Go.Lf.chk (List.length r7.1) z4.1)).bind fun r8 =>
       ((Go.Lf.nth r7.1 r8)).bind fun r9 =>
       ((Go.Lf.chk (List.length r7.1) z4.1)).bind fun r10 =>
       ((Go.Lf.nth r7.1 r10)).bind fun r11 =>
       ((Go.Lf.chk (List.length (List.set r7.1 r10 (r11.1, (r11.2.1, ((Go.IntKind.wrap .i64 (r7.2 - r9.2.1)), r11.2.2.2))))) z4.1)).bind fun r12 =>
       ((Go.Lf.nth (List.set r7.1 r10 (r11.1, (r11.2.1, ((Go.IntKind.wrap .i64 (r7.2 - r9.2.1)), r11.2.2.2)))) r12)).bind fun r13 =>
       bif (decide ((r13.1 : Int) = (65533 : Int))) then ((Go.Lf.chk (List.length (List.set r7.1 r10 (r11.1, (r11.2.1, ((Go.IntKind.wrap .i64 (r7.2 - r9.2.1)), r11.2.2.2))))) z4.1)).bind fun r14 =>
       ((Go.Lf.nth (List.set r7.1 r10 (r11.1, (r11.2.1, ((Go.IntKind.wrap .i64 (r7.2 - r9.2.1)), r11.2.2.2)))) r14)).bind fun r15 =>
       ((Go.Lf.chk (List.length (List.set r7.1 r10 (r11.1, (r11.2.1, ((Go.IntKind.wrap .i64 (r7.2 - r9.2.1)), r11.2.2.2))))) z4.1)).bind fun r16 =>
       ((Go.Lf.nth (List.set r7.1 r10 (r11.1, (r11.2.1, ((Go.IntKind.wrap .i64 (r7.2 - r9.2.1)), r11.2.2.2)))) r16)).bind fun r17 =>
       some (List.set (List.set r7.1 r10 (r11.1, (r11.2.1, ((Go.IntKind.wrap .i64 (r7.2 - r9.2.1)), r11.2.2.2)))) r16 (r17.1, (r17.2.1, (r17.2.2.1, ((decide ((r15.2.2.1 : Int) = (1 : Int))), r17.2.2.2.2)))))
       else ((Go.Lf.chk (List.length (List.set r7.1 r10 (r11.1, (r11.2.1, ((Go.IntKind.wrap .i64 (r7.2 - r9.2.1)), r11.2.2.2))))) z4.1)).bind fun r18 =>
       ((Go.Lf.nth (List.set r7.1 r10 (r11.1, (r11.2.1, ((Go.IntKind.wrap .i64 (r7.2 - r9.2.1)), r11.2.2.2)))) r18)).bind fun r19 =>
       some (List.set (List.set r7.1 r10 (r11.1, (r11.2.1, ((Go.IntKind.wrap .i64 (r7.2 - r9.2.1)), r11.2.2.2)))) r18 (r19.1, (r19.2.1, (r19.2.2.1, (false, r19.2.2.2.2)))))).bind fun r20 =>
     some (.inl ((Go.IntKind.wrap .i64 (z4.1 + (1 : Int))), r20))
     else some (.inr z4.2)) ((0 : Int), r3) : Option (List ((Int) × ((Int) × ((Int) × ((Bool) × (Unit))))))).bind fun r21 =>
 some r21
theorem folioref02_Chars_le (n : Nat) (a0 : List (UInt8)) : Go.Lf.Le (folioref02_Chars_c n a0) (folioref02_Chars a0) := by
  unfold folioref02_Chars_c folioref02_Chars
  repeat' first
    | with_reducible refine Go.Lf.Le.bind ?_ (fun _ => ?_)
    | with_reducible refine Go.Lf.Le.cond ?_ ?_
    | with_reducible refine Go.Lf.Le.loop (fun _ => ?_)
    | with_reducible refine Go.Lf.Le.onSum (fun _ => ?_) (fun _ => ?_)
    | with_reducible exact Go.Lf.Le.refl
noncomputable def folioref02_Control_c (n : Nat) (a0 : Int) : Option (Bool) :=
 (bif (decide ((0 : Int) ≤ a0)) then bif (!(decide (a0 < (32 : Int)))) then bif (decide ((127 : Int) ≤ a0)) then some (decide (a0 ≤ (159 : Int)))
   else some false
   else some true
   else bif (decide ((127 : Int) ≤ a0)) then some (decide (a0 ≤ (159 : Int)))
   else some false).bind fun r1 =>
 some r1
theorem folioref02_Control_le (n : Nat) (a0 : Int) : Go.Lf.Le (folioref02_Control_c n a0) (folioref02_Control a0) := by
  unfold folioref02_Control_c folioref02_Control
  repeat' first
    | with_reducible refine Go.Lf.Le.bind ?_ (fun _ => ?_)
    | with_reducible refine Go.Lf.Le.cond ?_ ?_
    | with_reducible refine Go.Lf.Le.loop (fun _ => ?_)
    | with_reducible refine Go.Lf.Le.onSum (fun _ => ?_) (fun _ => ?_)
    | with_reducible exact Go.Lf.Le.refl
noncomputable def folioref04_bad_c (n : Nat) (a0 : List (UInt8)) : Option ((Int) × (Bool)) :=
 ((Go.Fn.folioref02_Chars_c n a0)).bind fun r1 =>
 (Go.Lf.loopF n (σ := Int) (κ := (Unit) ⊕ ((Int) × (Bool))) (fun z2 =>
     bif (decide (z2 < (((List.length r1) : Nat) : Int))) then (((Go.Lf.idx r1 z2)).bind fun r3 =>
       bif (!r3.2.2.2.1) then ((Go.Lf.idx r1 z2)).bind fun r4 =>
       bif (decide ((r4.1 : Int) ≠ (9 : Int))) then ((Go.Lf.idx r1 z2)).bind fun r5 =>
       ((Go.Fn.folioref02_Control_c n r5.1)).bind fun r6 =>
       some r6
       else some false
       else some true).bind fun r7 =>
     bif r7 then ((Go.Lf.idx r1 z2)).bind fun r8 =>
     some (.inr (.inr (r8.2.1, true)))
     else some (.inl (Go.IntKind.wrap .i64 (z2 + (1 : Int))))
     else some (.inr (.inl ()))) (0 : Int) : Option ((Unit) ⊕ ((Int) × (Bool)))).bind fun r9 =>
 Go.Lf.onSum r9 (fun a10 =>
 some ((0 : Int), false)) (fun b11 =>
 some (b11.1, b11.2))
theorem folioref04_bad_le (n : Nat) (a0 : List (UInt8)) : Go.Lf.Le (folioref04_bad_c n a0) (folioref04_bad a0) := by
  unfold folioref04_bad_c folioref04_bad
  repeat' first
    | with_reducible exact Go.Fn.folioref02_Chars_le n _
    | with_reducible exact Go.Fn.folioref02_Control_le n _
    | with_reducible refine Go.Lf.Le.bind ?_ (fun _ => ?_)
    | with_reducible refine Go.Lf.Le.cond ?_ ?_
    | with_reducible refine Go.Lf.Le.loop (fun _ => ?_)
    | with_reducible refine Go.Lf.Le.onSum (fun _ => ?_) (fun _ => ?_)
    | with_reducible exact Go.Lf.Le.refl
noncomputable def folioref04_blank_c (n : Nat) (a0 : Int) : Option (Bool) :=
 (bif (!(decide ((a0 : Int) = (32 : Int)))) then some (decide ((a0 : Int) = (9 : Int)))
   else some true).bind fun r1 =>
 some r1
theorem folioref04_blank_le (n : Nat) (a0 : Int) : Go.Lf.Le (folioref04_blank_c n a0) (folioref04_blank a0) := by
  unfold folioref04_blank_c folioref04_blank
  repeat' first
    | with_reducible refine Go.Lf.Le.bind ?_ (fun _ => ?_)
    | with_reducible refine Go.Lf.Le.cond ?_ ?_
    | with_reducible refine Go.Lf.Le.loop (fun _ => ?_)
    | with_reducible refine Go.Lf.Le.onSum (fun _ => ?_) (fun _ => ?_)
    | with_reducible exact Go.Lf.Le.refl
noncomputable def folioref04_strip_c (n : Nat) (a0 : List (UInt8)) : Option (List (UInt8)) :=
 (Go.Lf.loopF n (σ := List (UInt8)) (κ := List (UInt8)) (fun z1 =>
     (bif (decide ((0 : Int) < (((List.length z1) : Nat) : Int))) then ((Go.Lf.idx z1 (0 : Int))).bind fun r2 =>
       ((Go.Fn.folioref04_blank_c n (((UInt8.toNat r2) : Nat) : Int))).bind fun r3 =>
       some r3
       else some false).bind fun r4 =>
     bif r4 then ((Go.Lf.sub z1 (1 : Int) (((List.length z1) : Nat) : Int))).bind fun r5 =>
     some (.inl r5)
     else some (.inr z1)) a0 : Option (List (UInt8))).bind fun r6 =>
 (Go.Lf.loopF n (σ := List (UInt8)) (κ := List (UInt8)) (fun z7 =>
     (bif (decide ((0 : Int) < (((List.length z7) : Nat) : Int))) then ((Go.Lf.idx z7 (Go.IntKind.wrap .i64 ((((List.length z7) : Nat) : Int) - (1 : Int))))).bind fun r8 =>
       ((Go.Fn.folioref04_blank_c n (((UInt8.toNat r8) : Nat) : Int))).bind fun r9 =>
       some r9
       else some false).bind fun r10 =>
     bif r10 then ((Go.Lf.sub z7 (0 : Int) (Go.IntKind.wrap .i64 ((((List.length z7) : Nat) : Int) - (1 : Int))))).bind fun r11 =>
     some (.inl r11)
     else some (.inr z7)) r6 : Option (List (UInt8))).bind fun r12 =>
 some r12
theorem folioref04_strip_le (n : Nat) (a0 : List (UInt8)) : Go.Lf.Le (folioref04_strip_c n a0) (folioref04_strip a0) := by
  unfold folioref04_strip_c folioref04_strip
  repeat' first
    | with_reducible exact Go.Fn.folioref04_blank_le n _
    | with_reducible refine Go.Lf.Le.bind ?_ (fun _ => ?_)
    | with_reducible refine Go.Lf.Le.cond ?_ ?_
    | with_reducible refine Go.Lf.Le.loop (fun _ => ?_)
    | with_reducible refine Go.Lf.Le.onSum (fun _ => ?_) (fun _ => ?_)
    | with_reducible exact Go.Lf.Le.refl
noncomputable def folioref04_lexer__flush_c (n : Nat) (a0 : (List ((Int) × ((List (UInt8)) × ((List (UInt8)) × ((Int) × ((Int) × (Unit))))))) × (((Int) × ((Int) × ((Int) × ((List (UInt8)) × (Unit))))) × ((Bool) × ((List ((Int) × ((List (UInt8)) × ((List (UInt8)) × ((Int) × ((Int) × (Unit))))))) × (((Int) × ((List (UInt8)) × ((List (UInt8)) × ((Int) × ((Int) × (Unit)))))) × ((List (Int)) × (((Int) × ((List (UInt8)) × ((List (UInt8)) × ((Int) × ((Int) × (Unit)))))) × ((Bool) × (Unit))))))))) : Option ((List ((Int) × ((List (UInt8)) × ((List (UInt8)) × ((Int) × ((Int) × (Unit))))))) × (((Int) × ((Int) × ((Int) × ((List (UInt8)) × (Unit))))) × ((Bool) × ((List ((Int) × ((List (UInt8)) × ((List (UInt8)) × ((Int) × ((Int) × (Unit))))))) × (((Int) × ((List (UInt8)) × ((List (UInt8)) × ((Int) × ((Int) × (Unit)))))) × ((List (Int)) × (((Int) × ((List (UInt8)) × ((List (UInt8)) × ((Int) × ((Int) × (Unit)))))) × ((Bool) × (Unit))))))))) :=
 (bif (decide ((a0.2.2.2.2.1.1 : Int) = (6 : Int))) then ((Go.Lf.app (56 : Nat) a0.1 ((a0.2.2.2.2.1.1, (a0.2.2.2.2.1.2.1, ((Go.Lf.bytesU a0.2.2.2.2.2.1), a0.2.2.2.2.1.2.2.2))) :: ([] : List ((Int) × ((List (UInt8)) × ((List (UInt8)) × ((Int) × ((Int) × (Unit)))))))))).bind fun r1 =>
   some (r1, (a0.2.1, (a0.2.2.1, (a0.2.2.2.1, ((a0.2.2.2.2.1.1, (a0.2.2.2.2.1.2.1, ((Go.Lf.bytesU a0.2.2.2.2.2.1), a0.2.2.2.2.1.2.2.2))), a0.2.2.2.2.2)))))
   else some a0).bind fun r2 =>
 some (r2.1, (r2.2.1, (r2.2.2.1, (r2.2.2.2.1, (((0 : Int), (([] : List (UInt8)), (([] : List (UInt8)), ((0 : Int), ((0 : Int), ()))))), (([] : List (Int)), r2.2.2.2.2.2.2))))))
theorem folioref04_lexer__flush_le (n : Nat) (a0 : (List ((Int) × ((List (UInt8)) × ((List (UInt8)) × ((Int) × ((Int) × (Unit))))))) × (((Int) × ((Int) × ((Int) × ((List (UInt8)) × (Unit))))) × ((Bool) × ((List ((Int) × ((List (UInt8)) × ((List (UInt8)) × ((Int) × ((Int) × (Unit))))))) × (((Int) × ((List (UInt8)) × ((List (UInt8)) × ((Int) × ((Int) × (Unit)))))) × ((List (Int)) × (((Int) × ((List (UInt8)) × ((List (UInt8)) × ((Int) × ((Int) × (Unit)))))) × ((Bool) × (Unit))))))))) : Go.Lf.Le (folioref04_lexer__flush_c n a0) (folioref04_lexer__flush a0) := by
  unfold folioref04_lexer__flush_c folioref04_lexer__flush
  repeat' first
    | with_reducible refine Go.Lf.Le.bind ?_ (fun _ => ?_)
    | with_reducible refine Go.Lf.Le.cond ?_ ?_
    | with_reducible refine Go.Lf.Le.loop (fun _ => ?_)
    | with_reducible refine Go.Lf.Le.onSum (fun _ => ?_) (fun _ => ?_)
    | with_reducible exact Go.Lf.Le.refl
noncomputable def folioref04_lexer__end_c (n : Nat) (a0 : (List ((Int) × ((List (UInt8)) × ((List (UInt8)) × ((Int) × ((Int) × (Unit))))))) × (((Int) × ((Int) × ((Int) × ((List (UInt8)) × (Unit))))) × ((Bool) × ((List ((Int) × ((List (UInt8)) × ((List (UInt8)) × ((Int) × ((Int) × (Unit))))))) × (((Int) × ((List (UInt8)) × ((List (UInt8)) × ((Int) × ((Int) × (Unit)))))) × ((List (Int)) × (((Int) × ((List (UInt8)) × ((List (UInt8)) × ((Int) × ((Int) × (Unit)))))) × ((Bool) × (Unit))))))))) : Option ((List ((Int) × ((List (UInt8)) × ((List (UInt8)) × ((Int) × ((Int) × (Unit))))))) × (((Int) × ((Int) × ((Int) × ((List (UInt8)) × (Unit))))) × ((Bool) × ((List ((Int) × ((List (UInt8)) × ((List (UInt8)) × ((Int) × ((Int) × (Unit))))))) × (((Int) × ((List (UInt8)) × ((List (UInt8)) × ((Int) × ((Int) × (Unit)))))) × ((List (Int)) × (((Int) × ((List (UInt8)) × ((List (UInt8)) × ((Int) × ((Int) × (Unit)))))) × ((Bool) × (Unit))))))))) :=
 bif (!a0.2.2.1) then some a0
 else (bif (decide ((0 : Int) < (((List.length a0.2.2.2.1) : Nat) : Int))) then ((Go.Lf.chk (List.length a0.2.2.2.1) (Go.IntKind.wrap .i64 ((((List.length a0.2.2.2.1) : Nat) : Int) - (1 : Int))))).bind fun r1 =>
   ((Go.Lf.nth a0.2.2.2.1 r1)).bind fun r2 =>
   ((Go.Fn.folioref04_lexer__fail_c n a0 (45 : Int) r2.2.2.2.1 r2.2.2.2.2.1 r2.2.1)).bind fun r3 =>
   some r3
   else some a0).bind fun r4 =>
 ((Go.Fn.folioref04_lexer__flush_c n (r4.1, (r4.2.1, (r4.2.2.1, (r4.2.2.2.1, (r4.2.2.2.2.1, (r4.2.2.2.2.2.1, (((0 : Int), (([] : List (UInt8)), (([] : List (UInt8)), ((0 : Int), ((0 : Int), ()))))), r4.2.2.2.2.2.2.2))))))))).bind fun r5 =>
 some (r5.1, (r5.2.1, (false, (([] : List ((Int) × ((List (UInt8)) × ((List (UInt8)) × ((Int) × ((Int) × (Unit))))))), (r5.2.2.2.2.1, (r5.2.2.2.2.2.1, (r5.2.2.2.2.2.2.1, (false, r5.2.2.2.2.2.2.2.2))))))))
theorem folioref04_lexer__end_le (n : Nat) (a0 : (List ((Int) × ((List (UInt8)) × ((List (UInt8)) × ((Int) × ((Int) × (Unit))))))) × (((Int) × ((Int) × ((Int) × ((List (UInt8)) × (Unit))))) × ((Bool) × ((List ((Int) × ((List (UInt8)) × ((List (UInt8)) × ((Int) × ((Int) × (Unit))))))) × (((Int) × ((List (UInt8)) × ((List (UInt8)) × ((Int) × ((Int) × (Unit)))))) × ((List (Int)) × (((Int) × ((List (UInt8)) × ((List (UInt8)) × ((Int) × ((Int) × (Unit)))))) × ((Bool) × (Unit))))))))) : Go.Lf.Le (folioref04_lexer__end_c n a0) (folioref04_lexer__end a0) := by
  unfold folioref04_lexer__end_c folioref04_lexer__end
  repeat' first
    | with_reducible exact Go.Fn.folioref04_lexer__fail_le n _ _ _ _ _
    | with_reducible exact Go.Fn.folioref04_lexer__flush_le n _
    | with_reducible refine Go.Lf.Le.bind ?_ (fun _ => ?_)
    | with_reducible refine Go.Lf.Le.cond ?_ ?_
    | with_reducible refine Go.Lf.Le.loop (fun _ => ?_)
    | with_reducible refine Go.Lf.Le.onSum (fun _ => ?_) (fun _ => ?_)
    | with_reducible exact Go.Lf.Le.refl
noncomputable def folioref04_letter_c (n : Nat) (a0 : Int) : Option (Bool) :=
 (bif (decide ((97 : Int) ≤ a0)) then some (decide (a0 ≤ (122 : Int)))
   else some false).bind fun r1 =>
 some r1
theorem folioref04_letter_le (n : Nat) (a0 : Int) : Go.Lf.Le (folioref04_letter_c n a0) (folioref04_letter a0) := by
  unfold folioref04_letter_c folioref04_letter
  repeat' first
    | with_reducible refine Go.Lf.Le.bind ?_ (fun _ => ?_)
    | with_reducible refine Go.Lf.Le.cond ?_ ?_
    | with_reducible refine Go.Lf.Le.loop (fun _ => ?_)
    | with_reducible refine Go.Lf.Le.onSum (fun _ => ?_) (fun _ => ?_)
    | with_reducible exact Go.Lf.Le.refl
noncomputable def folioref04_letters_c (n : Nat) (a0 : List (UInt8)) (a1 : Int) : Option (Int) :=
 (Go.Lf.loopF n (σ := Int) (κ := Int) (fun z1 =>
     (bif (decide ((Go.IntKind.wrap .i64 (a1 + z1)) < (((List.length a0) : Nat) : Int))) then ((Go.Lf.idx a0 (Go.IntKind.wrap .i64 (a1 + z1)))).bind fun r2 =>
       ((Go.Fn.folioref04_letter_c n (((UInt8.toNat r2) : Nat) : Int))).bind fun r3 =>
       some r3
       else some false).bind fun r4 =>
     bif r4 then some (.inl (Go.IntKind.wrap .i64 (z1 + (1 : Int))))
     else some (.inr z1)) (0 : Int) : Option (Int)).bind fun r5 =>
 some r5
theorem folioref04_letters_le (n : Nat) (a0 : List (UInt8)) (a1 : Int) : Go.Lf.Le (folioref04_letters_c n a0 a1) (folioref04_letters a0 a1) := by
  unfold folioref04_letters_c folioref04_letters
  repeat' first
    | with_reducible exact Go.Fn.folioref04_letter_le n _
    | with_reducible refine Go.Lf.Le.bind ?_ (fun _ => ?_)
    | with_reducible refine Go.Lf.Le.cond ?_ ?_
    | with_reducible refine Go.Lf.Le.loop (fun _ => ?_)
    | with_reducible refine Go.Lf.Le.onSum (fun _ => ?_) (fun _ => ?_)
    | with_reducible exact Go.Lf.Le.refl
noncomputable def folioref04_lexer__directive_c (n : Nat) (a0 : (List ((Int) × ((List (UInt8)) × ((List (UInt8)) × ((Int) × ((Int) × (Unit))))))) × (((Int) × ((Int) × ((Int) × ((List (UInt8)) × (Unit))))) × ((Bool) × ((List ((Int) × ((List (UInt8)) × ((List (UInt8)) × ((Int) × ((Int) × (Unit))))))) × (((Int) × ((List (UInt8)) × ((List (UInt8)) × ((Int) × ((Int) × (Unit)))))) × ((List (Int)) × (((Int) × ((List (UInt8)) × ((List (UInt8)) × ((Int) × ((Int) × (Unit)))))) × ((Bool) × (Unit))))))))) (a1 : List (UInt8)) (a2 : Int) : Option ((List ((Int) × ((List (UInt8)) × ((List (UInt8)) × ((Int) × ((Int) × (Unit))))))) × (((Int) × ((Int) × ((Int) × ((List (UInt8)) × (Unit))))) × ((Bool) × ((List ((Int) × ((List (UInt8)) × ((List (UInt8)) × ((Int) × ((Int) × (Unit))))))) × (((Int) × ((List (UInt8)) × ((List (UInt8)) × ((Int) × ((Int) × (Unit)))))) × ((List (Int)) × (((Int) × ((List (UInt8)) × ((List (UInt8)) × ((Int) × ((Int) × (Unit)))))) × ((Bool) × (Unit))))))))) :=
 ((Go.Fn.folioref04_letters_c n a1 (1 : Int))).bind fun r1 =>
 (bif (!(decide (r1 < (1 : Int)))) then bif (!(decide ((12 : Int) < r1))) then bif (decide ((Go.IntKind.wrap .i64 ((1 : Int) + r1)) < (((List.length a1) : Nat) : Int))) then ((Go.Lf.idx a1 (Go.IntKind.wrap .i64 ((1 : Int) + r1)))).bind fun r2 =>
   ((Go.Fn.folioref04_blank_c n (((UInt8.toNat r2) : Nat) : Int))).bind fun r3 =>
   some ((!r3), a0)
   else some (false, a0)
   else some (true, a0)
   else some (true, a0)).bind fun r4 =>
 bif r4.1 then ((Go.Lf.sub a1 (1 : Int) (Go.IntKind.wrap .i64 ((1 : Int) + (Min.min r1 (12 : Int)))))).bind fun r5 =>
 ((Go.Fn.folioref04_lexer__fail_c n r4.2 (41 : Int) a2 (2 : Int) r5)).bind fun r6 =>
 some r6
 else ((Go.Fn.folioref04_lexer__end_c n r4.2)).bind fun r7 =>
 ((Go.Lf.sub a1 (1 : Int) (Go.IntKind.wrap .i64 ((1 : Int) + r1)))).bind fun r8 =>
 ((Go.Lf.sub a1 (Go.IntKind.wrap .i64 ((1 : Int) + r1)) (((List.length a1) : Nat) : Int))).bind fun r9 =>
 ((Go.Fn.folioref04_strip_c n r9)).bind fun r10 =>
 ((Go.Lf.app (56 : Nat) r7.1 (((1 : Int), (r8, (r10, (a2, ((1 : Int), ()))))) :: ([] : List ((Int) × ((List (UInt8)) × ((List (UInt8)) × ((Int) × ((Int) × (Unit)))))))))).bind fun r11 =>
 some (r11, r7.2)
theorem folioref04_lexer__directive_le (n : Nat) (a0 : (List ((Int) × ((List (UInt8)) × ((List (UInt8)) × ((Int) × ((Int) × (Unit))))))) × (((Int) × ((Int) × ((Int) × ((List (UInt8)) × (Unit))))) × ((Bool) × ((List ((Int) × ((List (UInt8)) × ((List (UInt8)) × ((Int) × ((Int) × (Unit))))))) × (((Int) × ((List (UInt8)) × ((List (UInt8)) × ((Int) × ((Int) × (Unit)))))) × ((List (Int)) × (((Int) × ((List (UInt8)) × ((List (UInt8)) × ((Int) × ((Int) × (Unit)))))) × ((Bool) × (Unit))))))))) (a1 : List (UInt8)) (a2 : Int) : Go.Lf.Le (folioref04_lexer__directive_c n a0 a1 a2) (folioref04_lexer__directive a0 a1 a2) := by
  unfold folioref04_lexer__directive_c folioref04_lexer__directive
  repeat' first
    | with_reducible exact Go.Fn.folioref04_blank_le n _
    | with_reducible exact Go.Fn.folioref04_letters_le n _ _
    | with_reducible exact Go.Fn.folioref04_lexer__end_le n _
    | with_reducible exact Go.Fn.folioref04_lexer__fail_le n _ _ _ _ _
    | with_reducible exact Go.Fn.folioref04_strip_le n _
    | with_reducible refine Go.Lf.Le.bind ?_ (fun _ => ?_)
    | with_reducible refine Go.Lf.Le.cond ?_ ?_
    | with_reducible refine Go.Lf.Le.loop (fun _ => ?_)
    | with_reducible refine Go.Lf.Le.onSum (fun _ => ?_) (fun _ => ?_)
    | with_reducible exact Go.Lf.Le.refl
noncomputable def folioref04_lexer__pause_c (n : Nat) (a0 : (List ((Int) × ((List (UInt8)) × ((List (UInt8)) × ((Int) × ((Int) × (Unit))))))) × (((Int) × ((Int) × ((Int) × ((List (UInt8)) × (Unit))))) × ((Bool) × ((List ((Int) × ((List (UInt8)) × ((List (UInt8)) × ((Int) × ((Int) × (Unit))))))) × (((Int) × ((List (UInt8)) × ((List (UInt8)) × ((Int) × ((Int) × (Unit)))))) × ((List (Int)) × (((Int) × ((List (UInt8)) × ((List (UInt8)) × ((Int) × ((Int) × (Unit)))))) × ((Bool) × (Unit))))))))) (a1 : Int) (a2 : Int) : Option ((List ((Int) × ((List (UInt8)) × ((List (UInt8)) × ((Int) × ((Int) × (Unit))))))) × (((Int) × ((Int) × ((Int) × ((List (UInt8)) × (Unit))))) × ((Bool) × ((List ((Int) × ((List (UInt8)) × ((List (UInt8)) × ((Int) × ((Int) × (Unit))))))) × (((Int) × ((List (UInt8)) × ((List (UInt8)) × ((Int) × ((Int) × (Unit)))))) × ((List (Int)) × (((Int) × ((List (UInt8)) × ((List (UInt8)) × ((Int) × ((Int) × (Unit)))))) × ((Bool) × (Unit))))))))) :=
 (bif a0.2.2.1 then bif (!a0.2.2.2.2.2.2.2.1) then some ((decide ((a0.2.2.2.2.2.2.1.1 : Int) = (0 : Int))), a0)
   else some (false, a0)
   else some (false, a0)).bind fun r1 =>
 bif r1.1 then some (r1.2.1, (r1.2.2.1, (r1.2.2.2.1, (r1.2.2.2.2.1, (r1.2.2.2.2.2.1, (r1.2.2.2.2.2.2.1, (((6 : Int), (([] : List (UInt8)), (([] : List (UInt8)), (a1, (a2, ()))))), r1.2.2.2.2.2.2.2.2)))))))
 else some r1.2
theorem folioref04_lexer__pause_le (n : Nat) (a0 : (List ((Int) × ((List (UInt8)) × ((List (UInt8)) × ((Int) × ((Int) × (Unit))))))) × (((Int) × ((Int) × ((Int) × ((List (UInt8)) × (Unit))))) × ((Bool) × ((List ((Int) × ((List (UInt8)) × ((List (UInt8)) × ((Int) × ((Int) × (Unit))))))) × (((Int) × ((List (UInt8)) × ((List (UInt8)) × ((Int) × ((Int) × (Unit)))))) × ((List (Int)) × (((Int) × ((List (UInt8)) × ((List (UInt8)) × ((Int) × ((Int) × (Unit)))))) × ((Bool) × (Unit))))))))) (a1 : Int) (a2 : Int) : Go.Lf.Le (folioref04_lexer__pause_c n a0 a1 a2) (folioref04_lexer__pause a0 a1 a2) := by
  unfold folioref04_lexer__pause_c folioref04_lexer__pause
  repeat' first
    | with_reducible refine Go.Lf.Le.bind ?_ (fun _ => ?_)
    | with_reducible refine Go.Lf.Le.cond ?_ ?_
    | with_reducible refine Go.Lf.Le.loop (fun _ => ?_)
    | with_reducible refine Go.Lf.Le.onSum (fun _ => ?_) (fun _ => ?_)
    | with_reducible exact Go.Lf.Le.refl
noncomputable def folioref04_lexer__begin_c (n : Nat) (a0 : (List ((Int) × ((List (UInt8)) × ((List (UInt8)) × ((Int) × ((Int) × (Unit))))))) × (((Int) × ((Int) × ((Int) × ((List (UInt8)) × (Unit))))) × ((Bool) × ((List ((Int) × ((List (UInt8)) × ((List (UInt8)) × ((Int) × ((Int) × (Unit))))))) × (((Int) × ((List (UInt8)) × ((List (UInt8)) × ((Int) × ((Int) × (Unit)))))) × ((List (Int)) × (((Int) × ((List (UInt8)) × ((List (UInt8)) × ((Int) × ((Int) × (Unit)))))) × ((Bool) × (Unit))))))))) : Option ((List ((Int) × ((List (UInt8)) × ((List (UInt8)) × ((Int) × ((Int) × (Unit))))))) × (((Int) × ((Int) × ((Int) × ((List (UInt8)) × (Unit))))) × ((Bool) × ((List ((Int) × ((List (UInt8)) × ((List (UInt8)) × ((Int) × ((Int) × (Unit))))))) × (((Int) × ((List (UInt8)) × ((List (UInt8)) × ((Int) × ((Int) × (Unit)))))) × ((List (Int)) × (((Int) × ((List (UInt8)) × ((List (UInt8)) × ((Int) × ((Int) × (Unit)))))) × ((Bool) × (Unit))))))))) :=
 bif (!a0.2.2.1) then some (a0.1, (a0.2.1, (true, (a0.2.2.2.1, (a0.2.2.2.2.1, (a0.2.2.2.2.2.1, (((0 : Int), (([] : List (UInt8)), (([] : List (UInt8)), ((0 : Int), ((0 : Int), ()))))), (false, a0.2.2.2.2.2.2.2.2))))))))
 else some a0
theorem folioref04_lexer__begin_le (n : Nat) (a0 : (List ((Int) × ((List (UInt8)) × ((List (UInt8)) × ((Int) × ((Int) × (Unit))))))) × (((Int) × ((Int) × ((Int) × ((List (UInt8)) × (Unit))))) × ((Bool) × ((List ((Int) × ((List (UInt8)) × ((List (UInt8)) × ((Int) × ((Int) × (Unit))))))) × (((Int) × ((List (UInt8)) × ((List (UInt8)) × ((Int) × ((Int) × (Unit)))))) × ((List (Int)) × (((Int) × ((List (UInt8)) × ((List (UInt8)) × ((Int) × ((Int) × (Unit)))))) × ((Bool) × (Unit))))))))) : Go.Lf.Le (folioref04_lexer__begin_c n a0) (folioref04_lexer__begin a0) := by
  unfold folioref04_lexer__begin_c folioref04_lexer__begin
  repeat' first
    | with_reducible refine Go.Lf.Le.bind ?_ (fun _ => ?_)
    | with_reducible refine Go.Lf.Le.cond ?_ ?_
    | with_reducible refine Go.Lf.Le.loop (fun _ => ?_)
    | with_reducible refine Go.Lf.Le.onSum (fun _ => ?_) (fun _ => ?_)
    | with_reducible exact Go.Lf.Le.refl
noncomputable def folioref04_special_c (n : Nat) (a0 : Int) : Option (Bool) :=
 (bif (!(decide ((a0 : Int) = (92 : Int)))) then bif (!(decide ((a0 : Int) = (123 : Int)))) then bif (!(decide ((a0 : Int) = (125 : Int)))) then bif (!(decide ((a0 : Int) = (124 : Int)))) then bif (!(decide ((a0 : Int) = (46 : Int)))) then some (decide ((a0 : Int) = (35 : Int)))
   else some true
   else some true
   else some true
   else some true
   else some true).bind fun r1 =>
 some r1
theorem folioref04_special_le (n : Nat) (a0 : Int) : Go.Lf.Le (folioref04_special_c n a0) (folioref04_special a0) := by
  unfold folioref04_special_c folioref04_special
  repeat' first
    | with_reducible refine Go.Lf.Le.bind ?_ (fun _ => ?_)
    | with_reducible refine Go.Lf.Le.cond ?_ ?_
    | with_reducible refine Go.Lf.Le.loop (fun _ => ?_)
    | with_reducible refine Go.Lf.Le.onSum (fun _ => ?_) (fun _ => ?_)
    | with_reducible exact Go.Lf.Le.refl
noncomputable def folioref04_behind_c (n : Nat) (a0 : List (UInt8)) (a1 : Int) : Option (List (UInt8)) :=
 ((Go.Fn.folioref02_Chars_c n a0)).bind fun r1 =>
 (Go.Lf.loopF n (σ := Int) (κ := (Unit) ⊕ (List (UInt8))) (fun z2 =>
     bif (decide (z2 < (((List.length r1) : Nat) : Int))) then ((Go.Lf.idx r1 z2)).bind fun r3 =>
     bif (decide ((r3.2.1 : Int) = a1)) then ((Go.Lf.idx r1 z2)).bind fun r4 =>
     ((Go.Lf.sub a0 a1 (Go.IntKind.wrap .i64 (a1 + r4.2.2.1)))).bind fun r5 =>
     some (.inr (.inr r5))
     else some (.inl (Go.IntKind.wrap .i64 (z2 + (1 : Int))))
     else some (.inr (.inl ()))) (0 : Int) : Option ((Unit) ⊕ (List (UInt8)))).bind fun r6 =>
 Go.Lf.onSum r6 (fun a7 =>
 some ([] : List (UInt8))) (fun b8 =>
 some b8)
theorem folioref04_behind_le (n : Nat) (a0 : List (UInt8)) (a1 : Int) : Go.Lf.Le (folioref04_behind_c n a0 a1) (folioref04_behind a0 a1) := by
  unfold folioref04_behind_c folioref04_behind
  repeat' first
    | with_reducible exact Go.Fn.folioref02_Chars_le n _
    | with_reducible refine Go.Lf.Le.bind ?_ (fun _ => ?_)
    | with_reducible refine Go.Lf.Le.cond ?_ ?_
    | with_reducible refine Go.Lf.Le.loop (fun _ => ?_)
    | with_reducible refine Go.Lf.Le.onSum (fun _ => ?_) (fun _ => ?_)
    | with_reducible exact Go.Lf.Le.refl
noncomputable def folioref04_lexer__put_c (n : Nat) (a0 : (List ((Int) × ((List (UInt8)) × ((List (UInt8)) × ((Int) × ((Int) × (Unit))))))) × (((Int) × ((Int) × ((Int) × ((List (UInt8)) × (Unit))))) × ((Bool) × ((List ((Int) × ((List (UInt8)) × ((List (UInt8)) × ((Int) × ((Int) × (Unit))))))) × (((Int) × ((List (UInt8)) × ((List (UInt8)) × ((Int) × ((Int) × (Unit)))))) × ((List (Int)) × (((Int) × ((List (UInt8)) × ((List (UInt8)) × ((Int) × ((Int) × (Unit)))))) × ((Bool) × (Unit))))))))) (a1 : List (UInt8)) (a2 : Int) (a3 : Int) : Option ((List ((Int) × ((List (UInt8)) × ((List (UInt8)) × ((Int) × ((Int) × (Unit))))))) × (((Int) × ((Int) × ((Int) × ((List (UInt8)) × (Unit))))) × ((Bool) × ((List ((Int) × ((List (UInt8)) × ((List (UInt8)) × ((Int) × ((Int) × (Unit))))))) × (((Int) × ((List (UInt8)) × ((List (UInt8)) × ((Int) × ((Int) × (Unit)))))) × ((List (Int)) × (((Int) × ((List (UInt8)) × ((List (UInt8)) × ((Int) × ((Int) × (Unit)))))) × ((Bool) × (Unit))))))))) :=
 (bif (decide ((a0.2.2.2.2.1.1 : Int) ≠ (6 : Int))) then some (a0.1, (a0.2.1, (a0.2.2.1, (a0.2.2.2.1, (((6 : Int), (([] : List (UInt8)), (([] : List (UInt8)), (a2, (a3, ()))))), a0.2.2.2.2.2)))))
   else some a0).bind fun r1 =>
 ((Go.Lf.app (1 : Nat) r1.2.2.2.2.2.1 (Go.Lf.bytesI a1))).bind fun r2 =>
 some (r1.1, (r1.2.1, (r1.2.2.1, (r1.2.2.2.1, (r1.2.2.2.2.1, (r2, (r1.2.2.2.2.2.2.1, (false, r1.2.2.2.2.2.2.2.2))))))))
theorem folioref04_lexer__put_le (n : Nat) (a0 : (List ((Int) × ((List (UInt8)) × ((List (UInt8)) × ((Int) × ((Int) × (Unit))))))) × (((Int) × ((Int) × ((Int) × ((List (UInt8)) × (Unit))))) × ((Bool) × ((List ((Int) × ((List (UInt8)) × ((List (UInt8)) × ((Int) × ((Int) × (Unit))))))) × (((Int) × ((List (UInt8)) × ((List (UInt8)) × ((Int) × ((Int) × (Unit)))))) × ((List (Int)) × (((Int) × ((List (UInt8)) × ((List (UInt8)) × ((Int) × ((Int) × (Unit)))))) × ((Bool) × (Unit))))))))) (a1 : List (UInt8)) (a2 : Int) (a3 : Int) : Go.Lf.Le (folioref04_lexer__put_c n a0 a1 a2 a3) (folioref04_lexer__put a0 a1 a2 a3) := by
  unfold folioref04_lexer__put_c folioref04_lexer__put
  repeat' first
    | with_reducible refine Go.Lf.Le.bind ?_ (fun _ => ?_)
    | with_reducible refine Go.Lf.Le.cond ?_ ?_
    | with_reducible refine Go.Lf.Le.loop (fun _ => ?_)
    | with_reducible refine Go.Lf.Le.onSum (fun _ => ?_) (fun _ => ?_)
    | with_reducible exact Go.Lf.Le.refl
noncomputable def folioref04_lexer__rest_c (n : Nat) (a0 : (List ((Int) × ((List (UInt8)) × ((List (UInt8)) × ((Int) × ((Int) × (Unit))))))) × (((Int) × ((Int) × ((Int) × ((List (UInt8)) × (Unit))))) × ((Bool) × ((List ((Int) × ((List (UInt8)) × ((List (UInt8)) × ((Int) × ((Int) × (Unit))))))) × (((Int) × ((List (UInt8)) × ((List (UInt8)) × ((Int) × ((Int) × (Unit)))))) × ((List (Int)) × (((Int) × ((List (UInt8)) × ((List (UInt8)) × ((Int) × ((Int) × (Unit)))))) × ((Bool) × (Unit))))))))) : Option ((List ((Int) × ((List (UInt8)) × ((List (UInt8)) × ((Int) × ((Int) × (Unit))))))) × (((Int) × ((Int) × ((Int) × ((List (UInt8)) × (Unit))))) × ((Bool) × ((List ((Int) × ((List (UInt8)) × ((List (UInt8)) × ((Int) × ((Int) × (Unit))))))) × (((Int) × ((List (UInt8)) × ((List (UInt8)) × ((Int) × ((Int) × (Unit)))))) × ((List (Int)) × (((Int) × ((List (UInt8)) × ((List (UInt8)) × ((Int) × ((Int) × (Unit)))))) × ((Bool) × (Unit))))))))) :=
 (bif (decide ((a0.2.2.2.2.2.2.1.1 : Int) = (6 : Int))) then ((Go.Fn.folioref04_lexer__put_c n a0 ((32 : UInt8) :: ([] : List (UInt8))) a0.2.2.2.2.2.2.1.2.2.2.1 a0.2.2.2.2.2.2.1.2.2.2.2.1)).bind fun r1 =>
   some r1
   else some a0).bind fun r2 =>
 some (r2.1, (r2.2.1, (r2.2.2.1, (r2.2.2.2.1, (r2.2.2.2.2.1, (r2.2.2.2.2.2.1, (((0 : Int), (([] : List (UInt8)), (([] : List (UInt8)), ((0 : Int), ((0 : Int), ()))))), r2.2.2.2.2.2.2.2)))))))
theorem folioref04_lexer__rest_le (n : Nat) (a0 : (List ((Int) × ((List (UInt8)) × ((List (UInt8)) × ((Int) × ((Int) × (Unit))))))) × (((Int) × ((Int) × ((Int) × ((List (UInt8)) × (Unit))))) × ((Bool) × ((List ((Int) × ((List (UInt8)) × ((List (UInt8)) × ((Int) × ((Int) × (Unit))))))) × (((Int) × ((List (UInt8)) × ((List (UInt8)) × ((Int) × ((Int) × (Unit)))))) × ((List (Int)) × (((Int) × ((List (UInt8)) × ((List (UInt8)) × ((Int) × ((Int) × (Unit)))))) × ((Bool) × (Unit))))))))) : Go.Lf.Le (folioref04_lexer__rest_c n a0) (folioref04_lexer__rest a0) := by
  unfold folioref04_lexer__rest_c folioref04_lexer__rest
  repeat' first
    | with_reducible exact Go.Fn.folioref04_lexer__put_le n _ _ _ _
    | with_reducible refine Go.Lf.Le.bind ?_ (fun _ => ?_)
    | with_reducible refine Go.Lf.Le.cond ?_ ?_
    | with_reducible refine Go.Lf.Le.loop (fun _ => ?_)
    | with_reducible refine Go.Lf.Le.onSum (fun _ => ?_) (fun _ => ?_)
    | with_reducible exact Go.Lf.Le.refl
noncomputable def folioref04_lexer__mark_c (n : Nat) (a0 : (List ((Int) × ((List (UInt8)) × ((List (UInt8)) × ((Int) × ((Int) × (Unit))))))) × (((Int) × ((Int) × ((Int) × ((List (UInt8)) × (Unit))))) × ((Bool) × ((List ((Int) × ((List (UInt8)) × ((List (UInt8)) × ((Int) × ((Int) × (Unit))))))) × (((Int) × ((List (UInt8)) × ((List (UInt8)) × ((Int) × ((Int) × (Unit)))))) × ((List (Int)) × (((Int) × ((List (UInt8)) × ((List (UInt8)) × ((Int) × ((Int) × (Unit)))))) × ((Bool) × (Unit))))))))) (a1 : (Int) × ((List (UInt8)) × ((List (UInt8)) × ((Int) × ((Int) × (Unit)))))) : Option ((List ((Int) × ((List (UInt8)) × ((List (UInt8)) × ((Int) × ((Int) × (Unit))))))) × (((Int) × ((Int) × ((Int) × ((List (UInt8)) × (Unit))))) × ((Bool) × ((List ((Int) × ((List (UInt8)) × ((List (UInt8)) × ((Int) × ((Int) × (Unit))))))) × (((Int) × ((List (UInt8)) × ((List (UInt8)) × ((Int) × ((Int) × (Unit)))))) × ((List (Int)) × (((Int) × ((List (UInt8)) × ((List (UInt8)) × ((Int) × ((Int) × (Unit)))))) × ((Bool) × (Unit))))))))) :=
 ((Go.Fn.folioref04_lexer__rest_c n a0)).bind fun r1 =>
 ((Go.Fn.folioref04_lexer__flush_c n r1)).bind fun r2 =>
 ((Go.Lf.app (56 : Nat) r2.1 (a1 :: ([] : List ((Int) × ((List (UInt8)) × ((List (UInt8)) × ((Int) × ((Int) × (Unit)))))))))).bind fun r3 =>
 some (r3, (r2.2.1, (r2.2.2.1, (r2.2.2.2.1, (r2.2.2.2.2.1, (r2.2.2.2.2.2.1, (r2.2.2.2.2.2.2.1, (false, r2.2.2.2.2.2.2.2.2))))))))
theorem folioref04_lexer__mark_le (n : Nat) (a0 : (List ((Int) × ((List (UInt8)) × ((List (UInt8)) × ((Int) × ((Int) × (Unit))))))) × (((Int) × ((Int) × ((Int) × ((List (UInt8)) × (Unit))))) × ((Bool) × ((List ((Int) × ((List (UInt8)) × ((List (UInt8)) × ((Int) × ((Int) × (Unit))))))) × (((Int) × ((List (UInt8)) × ((List (UInt8)) × ((Int) × ((Int) × (Unit)))))) × ((List (Int)) × (((Int) × ((List (UInt8)) × ((List (UInt8)) × ((Int) × ((Int) × (Unit)))))) × ((Bool) × (Unit))))))))) (a1 : (Int) × ((List (UInt8)) × ((List (UInt8)) × ((Int) × ((Int) × (Unit)))))) : Go.Lf.Le (folioref04_lexer__mark_c n a0 a1) (folioref04_lexer__mark a0 a1) := by
  unfold folioref04_lexer__mark_c folioref04_lexer__mark
  repeat' first
    | with_reducible exact Go.Fn.folioref04_lexer__flush_le n _
    | with_reducible exact Go.Fn.folioref04_lexer__rest_le n _
    | with_reducible refine Go.Lf.Le.bind ?_ (fun _ => ?_)
    | with_reducible refine Go.Lf.Le.cond ?_ ?_
    | with_reducible refine Go.Lf.Le.loop (fun _ => ?_)
    | with_reducible refine Go.Lf.Le.onSum (fun _ => ?_) (fun _ => ?_)
    | with_reducible exact Go.Lf.Le.refl
noncomputable def fault_Error__is_c (n : Nat) (a0 : Option ((Int) × (((Int) × ((Int) × ((Int) × ((Int) × ((List (UInt8)) × ((List ((List (UInt8)) × ((Int) × (Unit)))) × (Unit))))))) × (Unit)))) : Option (Bool) :=
 (bif (Option.isSome a0) then (a0).bind fun r1 =>
   some (decide ((r1.1 : Int) = (1 : Int)))
   else some false).bind fun r2 =>
 some r2
theorem fault_Error__is_le (n : Nat) (a0 : Option ((Int) × (((Int) × ((Int) × ((Int) × ((Int) × ((List (UInt8)) × ((List ((List (UInt8)) × ((Int) × (Unit)))) × (Unit))))))) × (Unit)))) : Go.Lf.Le (fault_Error__is_c n a0) (fault_Error__is a0) := by
  unfold fault_Error__is_c fault_Error__is
  repeat' first
    | with_reducible refine Go.Lf.Le.bind ?_ (fun _ => ?_)
    | with_reducible refine Go.Lf.Le.cond ?_ ?_
    | with_reducible refine Go.Lf.Le.loop (fun _ => ?_)
    | with_reducible refine Go.Lf.Le.onSum (fun _ => ?_) (fun _ => ?_)
    | with_reducible exact Go.Lf.Le.refl
noncomputable def fault_gather_c (n : Nat) (a0 : Option ((Int) × (((Int) × ((Int) × ((Int) × ((Int) × ((List (UInt8)) × ((List ((List (UInt8)) × ((Int) × (Unit)))) × (Unit))))))) × (Unit)))) (a1 : (Int) × ((Int) × ((List ((List (UInt8)) × ((Int) × (Unit)))) × (Unit)))) (a2 : List ((Int) × ((Int) × ((Int) × ((Int) × ((List (UInt8)) × ((List ((List (UInt8)) × ((Int) × (Unit)))) × (Unit)))))))) : Option (List ((Int) × ((Int) × ((Int) × ((Int) × ((List (UInt8)) × ((List ((List (UInt8)) × ((Int) × (Unit)))) × (Unit)))))))) :=
 (bif (Option.isNone a0) then some a2
   else bif (Option.isSome a0) then ((Go.Fn.fault_Error__is_c n a0)).bind fun r1 =>
   bif r1 then (a0).bind fun r2 =>
   (bif (decide ((a1.1 : Int) = (1 : Int))) then some (a2, ((r2.2.1.1, (a1.2.1, r2.2.1.2.2)), a1))
     else some (a2, (r2.2.1, a1))).bind fun r3 =>
   ((Go.Lf.app (24 : Nat) ([] : List ((List (UInt8)) × ((Int) × (Unit)))) r3.2.2.2.2.1)).bind fun r4 =>
   ((Go.Lf.app (72 : Nat) r3.1 ((r3.2.1.1, (r3.2.1.2.1, (r3.2.1.2.2.1, (r3.2.1.2.2.2.1, (r3.2.1.2.2.2.2.1, (r4, r3.2.1.2.2.2.2.2.2)))))) :: ([] : List ((Int) × ((Int) × ((Int) × ((Int) × ((List (UInt8)) × ((List ((List (UInt8)) × ((Int) × (Unit)))) × (Unit))))))))))).bind fun r5 =>
   some r5
   else some a2
   else (bif (Option.isSome a0) then none
     else some ()).bind fun r6 =>
   (bif (Option.isSome a0) then none
     else some ()).bind fun r7 =>
   some a2).bind fun r8 =>
 some r8
theorem fault_gather_le (n : Nat) (a0 : Option ((Int) × (((Int) × ((Int) × ((Int) × ((Int) × ((List (UInt8)) × ((List ((List (UInt8)) × ((Int) × (Unit)))) × (Unit))))))) × (Unit)))) (a1 : (Int) × ((Int) × ((List ((List (UInt8)) × ((Int) × (Unit)))) × (Unit)))) (a2 : List ((Int) × ((Int) × ((Int) × ((Int) × ((List (UInt8)) × ((List ((List (UInt8)) × ((Int) × (Unit)))) × (Unit)))))))) : Go.Lf.Le (fault_gather_c n a0 a1 a2) (fault_gather a0 a1 a2) := by
  unfold fault_gather_c fault_gather
  repeat' first
    | with_reducible exact Go.Fn.fault_Error__is_le n _
    | with_reducible refine Go.Lf.Le.bind ?_ (fun _ => ?_)
    | with_reducible refine Go.Lf.Le.cond ?_ ?_
    | with_reducible refine Go.Lf.Le.loop (fun _ => ?_)
    | with_reducible refine Go.Lf.Le.onSum (fun _ => ?_) (fun _ => ?_)
    | with_reducible exact Go.Lf.Le.refl
noncomputable def fault_bare_c (n : Nat) (a0 : Option ((Int) × (((Int) × ((Int) × ((Int) × ((Int) × ((List (UInt8)) × ((List ((List (UInt8)) × ((Int) × (Unit)))) × (Unit))))))) × (Unit)))) : Option (List ((List (UInt8)) × ((Int) × (Unit)))) :=
 (Go.Lf.loopF n (σ := (List ((List (UInt8)) × ((Int) × (Unit)))) × (Option ((Int) × (((Int) × ((Int) × ((Int) × ((Int) × ((List (UInt8)) × ((List ((List (UInt8)) × ((Int) × (Unit)))) × (Unit))))))) × (Unit))))) (κ := List ((List (UInt8)) × ((Int) × (Unit)))) (fun z1 =>
     some (.inr z1.1)) (([] : List ((List (UInt8)) × ((Int) × (Unit)))), a0) : Option (List ((List (UInt8)) × ((Int) × (Unit))))).bind fun r2 =>
 some r2
theorem fault_bare_le (n : Nat) (a0 : Option ((Int) × (((Int) × ((Int) × ((Int) × ((Int) × ((List (UInt8)) × ((List ((List (UInt8)) × ((Int) × (Unit)))) × (Unit))))))) × (Unit)))) : Go.Lf.Le (fault_bare_c n a0) (fault_bare a0) := by
  unfold fault_bare_c fault_bare
  repeat' first
    | with_reducible refine Go.Lf.Le.bind ?_ (fun _ => ?_)
    | with_reducible refine Go.Lf.Le.cond ?_ ?_
    | with_reducible refine Go.Lf.Le.loop (fun _ => ?_)
    | with_reducible refine Go.Lf.Le.onSum (fun _ => ?_) (fun _ => ?_)
    | with_reducible exact Go.Lf.Le.refl
noncomputable def fault_All_c (n : Nat) (a0 : Option ((Int) × (((Int) × ((Int) × ((Int) × ((Int) × ((List (UInt8)) × ((List ((List (UInt8)) × ((Int) × (Unit)))) × (Unit))))))) × (Unit)))) : Option (List ((Int) × ((Int) × ((Int) × ((Int) × ((List (UInt8)) × ((List ((List (UInt8)) × ((Int) × (Unit)))) × (Unit)))))))) :=
 bif (Option.isNone a0) then some ([] : List ((Int) × ((Int) × ((Int) × ((Int) × ((List (UInt8)) × ((List ((List (UInt8)) × ((Int) × (Unit)))) × (Unit))))))))
 else ((Go.Fn.fault_gather_c n a0 ((0 : Int), ((0 : Int), (([] : List ((List (UInt8)) × ((Int) × (Unit)))), ()))) ([] : List ((Int) × ((Int) × ((Int) × ((Int) × ((List (UInt8)) × ((List ((List (UInt8)) × ((Int) × (Unit)))) × (Unit)))))))))).bind fun r1 =>
 bif (decide ((0 : Int) < (((List.length r1) : Nat) : Int))) then some r1
 else ((Go.Fn.fault_bare_c n a0)).bind fun r2 =>
 some (((10 : Int), ((0 : Int), ((0 : Int), ((0 : Int), (([] : List (UInt8)), (r2, ())))))) :: ([] : List ((Int) × ((Int) × ((Int) × ((Int) × ((List (UInt8)) × ((List ((List (UInt8)) × ((Int) × (Unit)))) × (Unit)))))))))
theorem fault_All_le (n : Nat) (a0 : Option ((Int) × (((Int) × ((Int) × ((Int) × ((Int) × ((List (UInt8)) × ((List ((List (UInt8)) × ((Int) × (Unit)))) × (Unit))))))) × (Unit)))) : Go.Lf.Le (fault_All_c n a0) (fault_All a0) := by
  unfold fault_All_c fault_All
  repeat' first
    | with_reducible exact Go.Fn.fault_bare_le n _
    | with_reducible exact Go.Fn.fault_gather_le n _ _ _
    | with_reducible refine Go.Lf.Le.bind ?_ (fun _ => ?_)
    | with_reducible refine Go.Lf.Le.cond ?_ ?_
    | with_reducible refine Go.Lf.Le.loop (fun _ => ?_)
    | with_reducible refine Go.Lf.Le.onSum (fun _ => ?_) (fun _ => ?_)
    | with_reducible exact Go.Lf.Le.refl
noncomputable def fault_Told_c (n : Nat) (a0 : Option ((Int) × (((Int) × ((Int) × ((Int) × ((Int) × ((List (UInt8)) × ((List ((List (UInt8)) × ((Int) × (Unit)))) × (Unit))))))) × (Unit)))) : Option ((Int) × ((Int) × ((Int) × ((Int) × ((List (UInt8)) × ((List ((List (UInt8)) × ((Int) × (Unit)))) × (Unit))))))) :=
 ((Go.Fn.fault_All_c n a0)).bind fun r1 =>
 bif (decide (((((List.length r1) : Nat) : Int) : Int) = (0 : Int))) then some ((0 : Int), ((0 : Int), ((0 : Int), ((0 : Int), (([] : List (UInt8)), (([] : List ((List (UInt8)) × ((Int) × (Unit)))), ()))))))
 else ((Go.Lf.idx r1 (0 : Int))).bind fun r2 =>
 some r2
theorem fault_Told_le (n : Nat) (a0 : Option ((Int) × (((Int) × ((Int) × ((Int) × ((Int) × ((List (UInt8)) × ((List ((List (UInt8)) × ((Int) × (Unit)))) × (Unit))))))) × (Unit)))) : Go.Lf.Le (fault_Told_c n a0) (fault_Told a0) := by
  unfold fault_Told_c fault_Told
  repeat' first
    | with_reducible exact Go.Fn.fault_All_le n _
    | with_reducible refine Go.Lf.Le.bind ?_ (fun _ => ?_)
    | with_reducible refine Go.Lf.Le.cond ?_ ?_
    | with_reducible refine Go.Lf.Le.loop (fun _ => ?_)
    | with_reducible refine Go.Lf.Le.onSum (fun _ => ?_) (fun _ => ?_)
    | with_reducible exact Go.Lf.Le.refl
noncomputable def foliolaw04_told_c (n : Nat) (a0 : Option ((Int) × (((Int) × ((Int) × ((Int) × ((Int) × ((List (UInt8)) × ((List ((List (UInt8)) × ((Int) × (Unit)))) × (Unit))))))) × (Unit)))) (a1 : (Int) × ((Int) × ((Int) × ((List (UInt8)) × (Unit))))) : Option (Bool) :=
 bif (decide ((a1.1 : Int) = (0 : Int))) then some (Option.isNone a0)
 else ((Go.Fn.fault_Told_c n a0)).bind fun r1 =>
 (bif (Option.isSome a0) then bif (decide ((r1.1 : Int) = a1.1)) then bif (decide ((r1.2.1 : Int) = (0 : Int))) then bif (decide ((r1.2.2.1 : Int) = a1.2.1)) then bif (decide ((r1.2.2.2.1 : Int) = a1.2.2.1)) then bif (decide ((r1.2.2.2.2.1 : List (UInt8)) = a1.2.2.2.1)) then bif (decide (((((List.length r1.2.2.2.2.2.1) : Nat) : Int) : Int) = (0 : Int))) then ((Go.Fn.fault_All_c n a0)).bind fun r2 =>
   some (decide (((((List.length r2) : Nat) : Int) : Int) = (1 : Int)))
   else some false
   else some false
   else some false
   else some false
   else some false
   else some false
   else some false).bind fun r3 =>
 some r3
theorem foliolaw04_told_le (n : Nat) (a0 : Option ((Int) × (((Int) × ((Int) × ((Int) × ((Int) × ((List (UInt8)) × ((List ((List (UInt8)) × ((Int) × (Unit)))) × (Unit))))))) × (Unit)))) (a1 : (Int) × ((Int) × ((Int) × ((List (UInt8)) × (Unit))))) : Go.Lf.Le (foliolaw04_told_c n a0 a1) (foliolaw04_told a0 a1) := by
  unfold foliolaw04_told_c foliolaw04_told
  repeat' first
    | with_reducible exact Go.Fn.fault_All_le n _
    | with_reducible exact Go.Fn.fault_Told_le n _
    | with_reducible refine Go.Lf.Le.bind ?_ (fun _ => ?_)
    | with_reducible refine Go.Lf.Le.cond ?_ ?_
    | with_reducible refine Go.Lf.Le.loop (fun _ => ?_)
    | with_reducible refine Go.Lf.Le.onSum (fun _ => ?_) (fun _ => ?_)
    | with_reducible exact Go.Lf.Le.refl
noncomputable def folioref04_Same_c (n : Nat) (a0 : List ((Int) × ((List (UInt8)) × ((List (UInt8)) × ((Int) × ((Int) × (Unit))))))) (a1 : List ((Int) × ((List (UInt8)) × ((List (UInt8)) × ((Int) × ((Int) × (Unit))))))) : Option (Bool) :=
 bif (decide (((((List.length a0) : Nat) : Int) : Int) ≠ (((List.length a1) : Nat) : Int))) then some false
 else (Go.Lf.loopF n (σ := Int) (κ := (Unit) ⊕ (Bool)) (fun z1 =>
     bif (decide (z1 < (((List.length a0) : Nat) : Int))) then (((Go.Lf.idx a0 z1)).bind fun r2 =>
       ((Go.Lf.idx a1 z1)).bind fun r3 =>
       bif (!(decide ((r2.1 : Int) ≠ r3.1))) then ((Go.Lf.idx a0 z1)).bind fun r4 =>
       ((Go.Lf.idx a1 z1)).bind fun r5 =>
       bif (!(decide ((r4.2.1 : List (UInt8)) ≠ r5.2.1))) then ((Go.Lf.idx a0 z1)).bind fun r6 =>
       ((Go.Lf.idx a1 z1)).bind fun r7 =>
       bif (!(decide ((r6.2.2.1 : List (UInt8)) ≠ r7.2.2.1))) then ((Go.Lf.idx a0 z1)).bind fun r8 =>
       ((Go.Lf.idx a1 z1)).bind fun r9 =>
       bif (!(decide ((r8.2.2.2.1 : Int) ≠ r9.2.2.2.1))) then ((Go.Lf.idx a0 z1)).bind fun r10 =>
       ((Go.Lf.idx a1 z1)).bind fun r11 =>
       some (decide ((r10.2.2.2.2.1 : Int) ≠ r11.2.2.2.2.1))
       else some true
       else some true
       else some true
       else some true).bind fun r12 =>
     bif r12 then some (.inr (.inr false))
     else some (.inl (Go.IntKind.wrap .i64 (z1 + (1 : Int))))
     else some (.inr (.inl ()))) (0 : Int) : Option ((Unit) ⊕ (Bool))).bind fun r13 =>
 Go.Lf.onSum r13 (fun a14 =>
 some true) (fun b15 =>
 some b15)
theorem folioref04_Same_le (n : Nat) (a0 : List ((Int) × ((List (UInt8)) × ((List (UInt8)) × ((Int) × ((Int) × (Unit))))))) (a1 : List ((Int) × ((List (UInt8)) × ((List (UInt8)) × ((Int) × ((Int) × (Unit))))))) : Go.Lf.Le (folioref04_Same_c n a0 a1) (folioref04_Same a0 a1) := by
  unfold folioref04_Same_c folioref04_Same
  repeat' first
    | with_reducible refine Go.Lf.Le.bind ?_ (fun _ => ?_)
    | with_reducible refine Go.Lf.Le.cond ?_ ?_
    | with_reducible refine Go.Lf.Le.loop (fun _ => ?_)
    | with_reducible refine Go.Lf.Le.onSum (fun _ => ?_) (fun _ => ?_)
    | with_reducible exact Go.Lf.Le.refl
noncomputable def foliolaw04_awake_c (n : Nat)  : Option (Bool) :=
 ((Go.Fn.mark_Lex_c n ((111 : UInt8) :: ((110 : UInt8) :: ((101 : UInt8) :: ((32 : UInt8) :: ((123 : UInt8) :: ((98 : UInt8) :: ((32 : UInt8) :: ((116 : UInt8) :: ((119 : UInt8) :: ((111 : UInt8) :: ((125 : UInt8) :: ((32 : UInt8) :: ((32 : UInt8) :: ((116 : UInt8) :: ((104 : UInt8) :: ((114 : UInt8) :: ((101 : UInt8) :: ((101 : UInt8) :: ((10 : UInt8) :: ((102 : UInt8) :: ((111 : UInt8) :: ((117 : UInt8) :: ((114 : UInt8) :: ([] : List (UInt8))))))))))))))))))))))))))).bind fun r1 =>
 ((Go.Fn.mark_Lex_c n ((46 : UInt8) :: ((116 : UInt8) :: ((111 : UInt8) :: ((112 : UInt8) :: ((105 : UInt8) :: ((99 : UInt8) :: ((115 : UInt8) :: ((49 : UInt8) :: ([] : List (UInt8)))))))))))).bind fun r2 =>
 (bif (Option.isNone r1.2) then bif (decide (((((List.length r1.1) : Nat) : Int) : Int) = (5 : Int))) then ((Go.Lf.idx r1.1 (0 : Int))).bind fun r3 =>
   bif (decide ((r3.2.2.1 : List (UInt8)) = ((111 : UInt8) :: ((110 : UInt8) :: ((101 : UInt8) :: ((32 : UInt8) :: ([] : List (UInt8)))))))) then ((Go.Lf.idx r1.1 (1 : Int))).bind fun r4 =>
   bif (decide ((r4.2.1 : List (UInt8)) = ((98 : UInt8) :: ([] : List (UInt8))))) then ((Go.Lf.idx r1.1 (1 : Int))).bind fun r5 =>
   bif (decide ((r5.2.2.2.2.1 : Int) = (5 : Int))) then ((Go.Lf.idx r1.1 (4 : Int))).bind fun r6 =>
   bif (decide ((r6.2.2.1 : List (UInt8)) = ((32 : UInt8) :: ((116 : UInt8) :: ((104 : UInt8) :: ((114 : UInt8) :: ((101 : UInt8) :: ((101 : UInt8) :: ((32 : UInt8) :: ((102 : UInt8) :: ((111 : UInt8) :: ((117 : UInt8) :: ((114 : UInt8) :: ([] : List (UInt8))))))))))))))) then ((Go.Lf.idx r1.1 (4 : Int))).bind fun r7 =>
   bif (decide ((r7.1 : Int) = (6 : Int))) then ((Go.Fn.foliolaw04_told_c n r2.2 ((41 : Int), ((1 : Int), ((2 : Int), (((116 : UInt8) :: ((111 : UInt8) :: ((112 : UInt8) :: ((105 : UInt8) :: ((99 : UInt8) :: ((115 : UInt8) :: ([] : List (UInt8)))))))), ())))))).bind fun r8 =>
   bif r8 then ((Go.Fn.mark_Escape_c n ((46 : UInt8) :: ((97 : UInt8) :: ((123 : UInt8) :: ([] : List (UInt8))))))).bind fun r9 =>
   some (decide ((r9 : List (UInt8)) = ((92 : UInt8) :: ((46 : UInt8) :: ((97 : UInt8) :: ((92 : UInt8) :: ((123 : UInt8) :: ([] : List (UInt8)))))))))
   else some false
   else some false
   else some false
   else some false
   else some false
   else some false
   else some false
   else some false).bind fun r10 =>
 some r10
theorem foliolaw04_awake_le (n : Nat)  : Go.Lf.Le (foliolaw04_awake_c n ) (foliolaw04_awake ) := by
  unfold foliolaw04_awake_c foliolaw04_awake
  repeat' first
    | with_reducible exact Go.Fn.foliolaw04_told_le n _ _
    | with_reducible exact Go.Fn.mark_Escape_le n _
    | with_reducible exact Go.Fn.mark_Lex_le n _
    | with_reducible refine Go.Lf.Le.bind ?_ (fun _ => ?_)
    | with_reducible refine Go.Lf.Le.cond ?_ ?_
    | with_reducible refine Go.Lf.Le.loop (fun _ => ?_)
    | with_reducible refine Go.Lf.Le.onSum (fun _ => ?_) (fun _ => ?_)
    | with_reducible exact Go.Lf.Le.refl
end Go.Fn
/- The chapter's first examples, reckoned. -/
namespace Go.Fn
open Go Go.Lf
theorem awake_c : foliolaw04_awake_c 60 = some true := by kernel_rfl
theorem awake : foliolaw04_awake = some true := foliolaw04_awake_le 60 _ awake_c
end Go.Fn
/-
  Loops over lists, plainly.
-/
namespace Go.Lf
open Go

theorem wrap64 {x : Int} (h0 : -9223372036854775808 ≤ x) (h1 : x ≤ 9223372036854775807) : IntKind.wrap .i64 x = x := by
  simp only [IntKind.wrap]
  simp [IntKind.bits, IntKind.signed]
  omega
theorem wrapS {n : Nat} (h : n < 9223372036854775807) : IntKind.wrap .i64 ((n : Int) + 1) = ((n + 1 : Nat) : Int) := by
  rw [wrap64 (by omega) (by omega)]; omega
theorem idx_nat {α : Type} (l : List α) (i : Nat) : idx l (i : Int) = l[i]? := by
  unfold idx
  rw [if_pos (by omega)]; rfl
theorem sub_nat {α : Type} {l : List α} {a b : Nat} (h : a ≤ b) (hb : b ≤ l.length) : sub l (a : Int) (b : Int) = some ((l.drop a).take (b - a)) := by
  unfold sub
  rw [if_pos (by omega)]; rfl
theorem app_of {α : Type} {b : Nat} {l m : List α} (h : (l.length + m.length) * b ≤ 140737488355328) : app b l m = some (l ++ m) := if_pos h
theorem cat_of {l m : List UInt8} (h : l.length + m.length ≤ 9223372036854775807) : cat l m = some (l ++ m) := if_pos h
section
variable {α σ κ : Type}
/-- a list, one by one -/
def foldE (step : α → σ → Option (σ ⊕ κ)) (fin : σ → κ) : List α → σ → Option κ
  | [], s => some (fin s)
  | x :: r, s => (step x s).bind fun d => onSum d (foldE step fin r) some
theorem range_loop {l : List α} {B : Int × σ → Option ((Int × σ) ⊕ κ)} (step : α → σ → Option (σ ⊕ κ)) (fin : σ → κ)
    (h1 : ∀ (i : Nat) x s, l[i]? = some x → B ((i : Int), s) = (step x s).map fun d => onSum d (fun s' => .inl (((i + 1 : Nat) : Int), s')) .inr) (h2 : ∀ s, B ((l.length : Int), s) = some (.inr (fin s))) :
    ∀ (m i : Nat) (s : σ), i + m = l.length → loopC B ((i : Int), s) = foldE step fin (l.drop i) s
  | 0, i, s, h => by
    have : i = l.length := by omega
    subst this
    rw [loopC_step, h2, List.drop_length]
    rfl
  | m + 1, i, s, h => by
    have hlt : i < l.length := by omega
    rw [loopC_step, h1 i l[i] s (List.getElem?_eq_getElem hlt), List.drop_eq_getElem_cons hlt]
    unfold foldE
    cases step l[i] s with
    | none => rfl
    | some d =>
      cases d with
      | inl s' => exact range_loop step fin h1 h2 m (i + 1) s' (by omega)
      | inr k => rfl
/-- a list, one by one, with the elements' numbers -/
def foldI (step : Nat → α → σ → Option (σ ⊕ κ)) (fin : σ → κ) : Nat → List α → σ → Option κ
  | _, [], s => some (fin s)
  | i, x :: r, s => (step i x s).bind fun d => onSum d (foldI step fin (i + 1) r) some
theorem range_loopI {l : List α} {B : Int × σ → Option ((Int × σ) ⊕ κ)} (step : Nat → α → σ → Option (σ ⊕ κ)) (fin : σ → κ)
    (h1 : ∀ (i : Nat) x s, l[i]? = some x → B ((i : Int), s) = (step i x s).map fun d => onSum d (fun s' => .inl (((i + 1 : Nat) : Int), s')) .inr) (h2 : ∀ s, B ((l.length : Int), s) = some (.inr (fin s))) :
    ∀ (m i : Nat) (s : σ), i + m = l.length → loopC B ((i : Int), s) = foldI step fin i (l.drop i) s
  | 0, i, s, h => by
    have : i = l.length := by omega
    subst this
    rw [loopC_step, h2, List.drop_length]
    rfl
  | m + 1, i, s, h => by
    have hlt : i < l.length := by omega
    rw [loopC_step, h1 i l[i] s (List.getElem?_eq_getElem hlt), List.drop_eq_getElem_cons hlt]
    unfold foldI
    cases step i l[i] s with
    | none => rfl
    | some d =>
      cases d with
      | inl s' => exact range_loopI step fin h1 h2 m (i + 1) s' (by omega)
      | inr k => rfl
theorem range_loopI0 {l : List α} {B : Int → Option (Int ⊕ κ)} (step : Nat → α → Option (Unit ⊕ κ)) (fin : κ)
    (h1 : ∀ (i : Nat) x, l[i]? = some x → B (i : Int) = (step i x).map fun d => onSum d (fun _ => .inl ((i + 1 : Nat) : Int)) .inr) (h2 : B (l.length : Int) = some (.inr fin)) :
    ∀ (m i : Nat), i + m = l.length → loopC B (i : Int) = foldI (fun i x (_ : Unit) => step i x) (fun _ => fin) i (l.drop i) ()
  | 0, i, h => by
    have : i = l.length := by omega
    subst this
    rw [loopC_step, h2, List.drop_length]
    rfl
  | m + 1, i, h => by
    have hlt : i < l.length := by omega
    rw [loopC_step, h1 i l[i] (List.getElem?_eq_getElem hlt), List.drop_eq_getElem_cons hlt]
    unfold foldI
    cases step i l[i] with
    | none => rfl
    | some d =>
      cases d with
      | inl s' => exact range_loopI0 step fin h1 h2 m (i + 1) (by omega)
      | inr k => rfl
/-- the same of a loop whose state is the number alone -/
theorem range_loop0 {l : List α} {B : Int → Option (Int ⊕ κ)} (step : α → Option (Unit ⊕ κ)) (fin : κ)
    (h1 : ∀ (i : Nat) x, l[i]? = some x → B (i : Int) = (step x).map fun d => onSum d (fun _ => .inl ((i + 1 : Nat) : Int)) .inr) (h2 : B (l.length : Int) = some (.inr fin)) :
    ∀ (m i : Nat), i + m = l.length → loopC B (i : Int) = foldE (fun x (_ : Unit) => step x) (fun _ => fin) (l.drop i) ()
  | 0, i, h => by
    have : i = l.length := by omega
    subst this
    rw [loopC_step, h2, List.drop_length]
    rfl
  | m + 1, i, h => by
    have hlt : i < l.length := by omega
    rw [loopC_step, h1 i l[i] (List.getElem?_eq_getElem hlt), List.drop_eq_getElem_cons hlt]
    unfold foldE
    cases step l[i] with
    | none => rfl
    | some d =>
      cases d with
      | inl s' => exact range_loop0 step fin h1 h2 m (i + 1) (by omega)
      | inr k => rfl
end
end Go.Lf
/- Chapter 4, plainly: escapes. -/
namespace Go.Fn
open Go Go.Lf

theorem nat8 (b c : UInt8) : decide (((b.toNat : Nat) : Int) = ((c.toNat : Nat) : Int)) = (b == c) := by
  by_cases h : b = c
  · subst h; simp
  · have : ¬ ((b.toNat : Nat) : Int) = ((c.toNat : Nat) : Int) := fun e => h (UInt8.toNat_inj.1 (by omega))
    simp [this, h]
end Go.Fn
/- Chapter 4, plainly: the lexer's small steps, total. -/
namespace Go.Fn
open Go Go.Lf
abbrev Bs := List UInt8
abbrev Tok := Int × Bs × Bs × Int × Int × Unit
abbrev Brc := Bs × Int × Int × Unit
abbrev LxT := List Tok × List Brc × Int × Tok × (Int × Int × Unit) × Int × Int × Unit
abbrev ErrT := Option (Int × (Int × Int × Int × Int × Bs × List (Bs × Int × Unit) × Unit) × Unit)
/-- a fault of source 0 -/
structure Wr where
  code : Int
  line : Int
  col : Int
  word : Bs
def Wr.e (f : Wr) : ErrT := some (1, (f.code, 0, f.line, f.col, f.word, [], ()), ())
/-- what goes on while a source is read -/
structure Lx where
  out : List Tok
  opn : List Brc
  ins : Bool
  run : Option (Bs × Int × Int)
  bl : Option (Int × Int)
  fresh : Bool
  line : Nat
def runT : Option (Bs × Int × Int) → Tok
  | none => (0, [], [], 0, 0, ())
  | some r => (6, [], r.1, r.2.1, r.2.2, ())
def blT : Option (Int × Int) → Int × Int × Unit
  | none => (0, 0, ())
  | some r => (r.1, r.2, ())
def bI (b : Bool) : Int := if b then 1 else 0
def Lx.t (x : Lx) : LxT := (x.out, x.opn, bI x.ins, runT x.run, blT x.bl, bI x.fresh, (x.line : Int), ())
/-- within bounds: n parts told at most, texts of n bytes at most -/
structure Lx.Ok (x : Lx) (n : Nat) : Prop where
  out : x.out.length ≤ n
  opn : x.opn.length ≤ 16
  run : ∀ r, x.run = some r → r.1 ≠ [] ∧ r.1.length ≤ n
  bl : ∀ r, x.bl = some r → r.2 ≠ 0
def putS (x : Lx) (s : Bs) (l c : Int) : Lx := { x with run := some (match x.run with | none => (s, l, c) | some r => (r.1 ++ s, r.2)) }
def flushS (x : Lx) : Lx := { x with out := (match x.run with | none => x.out | some r => x.out ++ [runT (some r)]), run := none }
def settleS (x : Lx) : Lx := match x.bl with
  | none => { x with fresh := false }
  | some r => { putS x [32] r.1 r.2 with bl := none, fresh := false }
def waitS (x : Lx) (c : Int) : Lx := if x.fresh = false ∧ x.bl = none then { x with bl := some ((x.line : Int), c) } else x
def tokS (x : Lx) (k : Int) (n : Bs) (c : Int) : Lx := { flushS (settleS x) with out := (flushS (settleS x)).out ++ [(k, n, [], (x.line : Int), c, ())] }
def endS (x : Lx) : Except Wr Lx :=
  if x.ins = false then .ok x else match x.opn.getLast? with
    | some b => .error ⟨45, b.2.1, b.2.2.1, b.1⟩
    | none => .ok { flushS x with ins := false, bl := none }
/-- what a function of the lexer says: a fault, or a state -/
def Res (r : Option (ErrT × LxT)) : Except Wr Lx → Prop
  | .ok y => r = some (none, y.t)
  | .error w => ∃ t, r = some (w.e, t)

theorem Lx.Ok.mono {x : Lx} {n m : Nat} (h : x.Ok n) (hm : n ≤ m) : x.Ok m := ⟨Nat.le_trans h.out hm, h.opn, fun r hr => ⟨(h.run r hr).1, Nat.le_trans (h.run r hr).2 hm⟩, h.bl⟩
theorem bI_zero (b : Bool) : decide (bI b = 0) = !b := by cases b <;> rfl
theorem put_eq {x : Lx} {n : Nat} (h : x.Ok n) (s : Bs) (l c : Int) (hn : n + s.length ≤ 1000000000) : mark_lexer__put x.t s l c = some (putS x s l c).t := by
  obtain ⟨out, opn, ins, run, bl, fresh, line⟩ := x
  unfold mark_lexer__put putS
  cases run with
  | none =>
    have hc : cat ([] : List UInt8) s = some ([] ++ s) := cat_of (by simp; omega)
    simp [Lx.t, runT, hc]
  | some r =>
    obtain ⟨h1, h2⟩ := h.run r rfl
    have hc : cat r.1 s = some (r.1 ++ s) := cat_of (by omega)
    simp [Lx.t, runT, hc, h1]
theorem put_ok {x : Lx} {n m : Nat} (h : x.Ok n) (s : Bs) (l c : Int) (hs : s ≠ []) (hn : n + s.length ≤ m) : (putS x s l c).Ok m := by
  refine ⟨Nat.le_trans h.out (by omega), h.opn, fun r hr => ?_, h.bl⟩
  unfold putS at hr
  cases hx : x.run with
  | none => rw [hx] at hr; cases hr; exact ⟨hs, by show s.length ≤ m; omega⟩
  | some q =>
    rw [hx] at hr; cases hr
    have := h.run q hx
    exact ⟨by simp [this.1], by simp; omega⟩
theorem flush_eq {x : Lx} {n : Nat} (h : x.Ok n) (hn : n ≤ 1000000000) : mark_lexer__flush x.t = some (flushS x).t := by
  obtain ⟨out, opn, ins, run, bl, fresh, line⟩ := x
  have ho : out.length ≤ n := h.out
  unfold mark_lexer__flush flushS
  cases run with
  | none => simp [Lx.t, runT]
  | some r =>
    obtain ⟨h1, h2⟩ := h.run r rfl
    have ha : app 56 out [((6 : Int), ([] : Bs), r.1, r.2.1, r.2.2, ())] = some (out ++ [(6, [], r.1, r.2.1, r.2.2, ())]) := app_of (by simp; omega)
    simp [Lx.t, runT, h1, ha]
theorem flush_ok {x : Lx} {n m : Nat} (h : x.Ok n) (hn : n + 1 ≤ m) : (flushS x).Ok m := by
  refine ⟨?_, h.opn, fun r hr => (by cases hr), h.bl⟩
  have := h.out
  unfold flushS
  cases x.run with
  | none => show x.out.length ≤ m; omega
  | some r => simp; omega
theorem bl_ne {x : Lx} {n : Nat} (h : x.Ok n) : (((blT x.bl).1 :: (blT x.bl).2.1 :: ([] : List Int)) = (0 : Int) :: (0 : Int) :: []) ↔ x.bl = none := by
  constructor
  · intro e
    cases hb : x.bl with
    | none => rfl
    | some r =>
      rw [hb] at e
      simp only [blT, List.cons.injEq, and_true] at e
      exact absurd e.2 (h.bl r hb)
  · intro e; rw [e]; rfl
theorem settle_eq {x : Lx} {n : Nat} (h : x.Ok n) (hn : n ≤ 999999999) : mark_lexer__settle x.t = some (settleS x).t := by
  have hb := bl_ne h
  unfold mark_lexer__settle settleS
  cases hx : x.bl with
  | none =>
    have e : (((blT x.bl).1 :: (blT x.bl).2.1 :: ([] : List Int)) = (0 : Int) :: (0 : Int) :: []) := hb.2 hx
    simp only [Lx.t, e]
    simp [hx, bI]
  | some r =>
    have e : ¬ (((blT x.bl).1 :: (blT x.bl).2.1 :: ([] : List Int)) = (0 : Int) :: (0 : Int) :: []) := fun q => by rw [hb.1 q] at hx; cases hx
    have hp := put_eq h [32] (blT x.bl).1 (blT x.bl).2.1 (by simp; omega)
    simp only [Lx.t] at hp ⊢
    simp only [e, decide_false, Bool.not_false, cond_true, hp, Option.bind_some]
    simp [hx, bI, blT, putS]
theorem settle_ok {x : Lx} {n m : Nat} (h : x.Ok n) (hn : n + 1 ≤ m) : (settleS x).Ok m := by
  unfold settleS
  split
  · exact ⟨(h.mono (by omega)).out, h.opn, (h.mono (by omega)).run, h.bl⟩
  · rename_i r hr
    have := put_ok (m := m) h [32] r.1 r.2 (by simp) (by simp; omega)
    exact ⟨this.out, this.opn, this.run, fun q hq => by cases hq⟩
theorem wait_eq {x : Lx} {n : Nat} (h : x.Ok n) (c : Int) : mark_lexer__wait x.t c = some (waitS x c).t := by
  have hb := bl_ne h
  unfold mark_lexer__wait waitS
  cases hf : x.fresh with
  | true => simp [Lx.t, hf, bI]
  | false =>
    by_cases hx : x.bl = none
    · have e : (((blT x.bl).1 :: (blT x.bl).2.1 :: ([] : List Int)) = (0 : Int) :: (0 : Int) :: []) := hb.2 hx
      simp only [Lx.t, e]
      simp [hx, hf, bI, blT]
    · have e : ¬ (((blT x.bl).1 :: (blT x.bl).2.1 :: ([] : List Int)) = (0 : Int) :: (0 : Int) :: []) := fun q => hx (hb.1 q)
      simp only [Lx.t, e]
      simp [hx, hf, bI]
theorem wait_ok {x : Lx} {n : Nat} (h : x.Ok n) (c : Int) (hc : c ≠ 0) : (waitS x c).Ok n := by
  unfold waitS
  split
  · exact ⟨h.out, h.opn, h.run, fun r hr => by cases hr; exact hc⟩
  · exact h
theorem flush_line (x : Lx) : (flushS x).line = x.line := rfl
theorem settle_line (x : Lx) : (settleS x).line = x.line := by unfold settleS; split <;> rfl
theorem settle_opn (x : Lx) : (settleS x).opn = x.opn := by unfold settleS; split <;> rfl
theorem settle_ins (x : Lx) : (settleS x).ins = x.ins := by unfold settleS; split <;> rfl
theorem token_eq {x : Lx} {n : Nat} (h : x.Ok n) (k : Int) (s : Bs) (c : Int) (hn : n ≤ 999999990) : mark_lexer__token x.t k s c = some (tokS x k s c).t := by
  have h1 := settle_ok (m := n + 1) h (Nat.le_refl _)
  have h2 := flush_ok (m := n + 2) h1 (Nat.le_refl _)
  unfold mark_lexer__token
  rw [settle_eq h (by omega)]
  simp only [Option.bind_some]
  rw [flush_eq h1 (by omega)]
  simp only [Option.bind_some]
  have ho := h2.out
  have ha : app 56 (flushS (settleS x)).out [(k, s, ([] : Bs), ((x.line : Nat) : Int), c, ())] = some ((flushS (settleS x)).out ++ [(k, s, [], ((x.line : Nat) : Int), c, ())]) := app_of (by simp; omega)
  have e1 : ((flushS (settleS x)).t).2.2.2.2.2.2.1 = ((x.line : Nat) : Int) := by show (((flushS (settleS x)).line : Nat) : Int) = _; rw [flush_line, settle_line]
  have e2 : ((flushS (settleS x)).t).1 = (flushS (settleS x)).out := rfl
  rw [e1, e2, ha]
  rfl
theorem tok_ok {x : Lx} {n m : Nat} (h : x.Ok n) (k : Int) (s : Bs) (c : Int) (hn : n + 3 ≤ m) : (tokS x k s c).Ok m := by
  have h1 := settle_ok (m := n + 1) h (Nat.le_refl _)
  have h2 := flush_ok (m := n + 2) h1 (Nat.le_refl _)
  have ho := h2.out
  exact ⟨by simp only [tokS, List.length_append, List.length_singleton]; omega, h2.opn, fun r hr => (by cases hr), h2.bl⟩
theorem tok_opn (x : Lx) (k : Int) (s : Bs) (c : Int) : (tokS x k s c).opn = x.opn := settle_opn x
theorem tok_line (x : Lx) (k : Int) (s : Bs) (c : Int) : (tokS x k s c).line = x.line := settle_line x
theorem wrong_eq (code line col : Int) (word : Bs) (h : code ≠ 0) : mark_wrong code line col word = some (Wr.e ⟨code, line, col, word⟩) := by
  unfold mark_wrong fault_New
  simp [h, Wr.e]
theorem end_eq {x : Lx} {n : Nat} (h : x.Ok n) (hn : n ≤ 1000000000) : Res (mark_lexer__end x.t) (endS x) := by
  have e0 : x.t.2.2.1 = bI x.ins := rfl
  have e1 : x.t.2.1 = x.opn := rfl
  unfold mark_lexer__end endS
  rw [e0, e1, bI_zero]
  cases hi : x.ins with
  | false => simp [Res]
  | true =>
    cases ho : x.opn.getLast? with
    | none =>
      rw [List.getLast?_eq_none_iff] at ho
      have hf := flush_eq h hn
      simp only [Bool.not_true, cond_false, ho, List.length_nil, hf, Option.bind_some]
      simp [Res, Lx.t, blT, bI]
    | some b =>
      have hl : x.opn ≠ [] := fun e => by rw [e] at ho; cases ho
      have hlen : 0 < x.opn.length := List.length_pos_iff.2 hl
      have hb := h.opn
      have hw : IntKind.wrap .i64 (((x.opn.length : Nat) : Int) - 1) = ((x.opn.length - 1 : Nat) : Int) := by rw [wrap64 (by omega) (by omega)]; omega
      have hck : chk x.opn.length ((x.opn.length - 1 : Nat) : Int) = some (x.opn.length - 1) := by
        unfold chk; rw [if_pos (by omega)]; simp
      have hnt : nth x.opn (x.opn.length - 1) = some b := by
        unfold nth
        rw [← List.getLast?_eq_getElem?, ho]
      have h0 : (0 : Int) < ((x.opn.length : Nat) : Int) := by omega
      simp only [Bool.not_true, cond_false, h0, decide_true, cond_true, hw, hck, Option.bind_some, hnt]
      rw [wrong_eq _ _ _ _ (by decide)]
      exact ⟨_, rfl⟩
theorem end_ok {x y : Lx} {n m : Nat} (h : x.Ok n) (hn : n + 1 ≤ m) (hy : endS x = .ok y) : y.Ok m := by
  unfold endS at hy
  split at hy
  · cases hy; exact h.mono (by omega)
  · split at hy
    · cases hy
    · cases hy
      have := flush_ok (m := m) h hn
      exact ⟨this.out, this.opn, this.run, fun r hr => by cases hr⟩
end Go.Fn
/- Chapter 4, plainly: names, blanks, one character of a line. -/
namespace Go.Fn
open Go Go.Lf
def letB (b : UInt8) : Bool := decide (97 ≤ b.toNat) && decide (b.toNat ≤ 122)
def blkB (b : UInt8) : Bool := b == 9 || b == 32
/-- how many letters a text begins with -/
def lets (l : Bs) : Nat := (l.takeWhile letB).length
theorem lets_nil : lets [] = 0 := rfl
theorem lets_cons (b : UInt8) (r : Bs) : lets (b :: r) = if letB b then lets r + 1 else 0 := by
  unfold lets
  rw [List.takeWhile_cons]
  split <;> simp
theorem lets_le (l : Bs) : lets l ≤ l.length := (List.takeWhile_prefix letB).length_le
theorem name_loop (s : Bs) (hs : s.length ≤ 1000000000) (B : Int → Option (Int ⊕ Int)) (hB : ∀ z1, B z1 = ((bif (decide (z1 < (((List.length s) : Nat) : Int))) then ((Go.Lf.idx s z1)).bind fun r2 =>
       bif (decide ((97 : Int) ≤ (((UInt8.toNat r2) : Nat) : Int))) then ((Go.Lf.idx s z1)).bind fun r3 =>
       some (decide ((((UInt8.toNat r3) : Nat) : Int) ≤ (122 : Int)))
       else some false
       else some false).bind fun r4 =>
     bif r4 then some (.inl (Go.IntKind.wrap .i64 (z1 + (1 : Int))))
     else some (.inr z1))) : ∀ (m k : Nat), k + m = s.length → loopC B (k : Int) = some ((k + lets (s.drop k) : Nat) : Int)
  | 0, k, hk => by
    have h0 : ¬ (k : Int) < ((s.length : Nat) : Int) := by omega
    rw [loopC_step, hB]
    simp only [h0, decide_false, cond_false, Option.bind_some]
    rw [List.drop_eq_nil_of_le (by omega)]
    rfl
  | m + 1, k, hk => by
    have h0 : (k : Int) < ((s.length : Nat) : Int) := by omega
    have hlt : k < s.length := by omega
    have hg : idx s (k : Int) = some s[k] := by rw [idx_nat, List.getElem?_eq_getElem hlt]
    have ih := name_loop s hs B hB m (k + 1) (by omega)
    have hw : IntKind.wrap .i64 ((k : Int) + 1) = ((k + 1 : Nat) : Int) := wrapS (by omega)
    rw [loopC_step, hB]
    simp only [h0, decide_true, cond_true, hg, Option.bind_some, hw]
    rw [List.drop_eq_getElem_cons hlt, lets_cons]
    by_cases h1 : 97 ≤ s[k].toNat
    · have h1' : (97 : Int) ≤ ((s[k].toNat : Nat) : Int) := by omega
      by_cases h2 : s[k].toNat ≤ 122
      · have h2' : ((s[k].toNat : Nat) : Int) ≤ 122 := by omega
        have hl : letB s[k] = true := by unfold letB; simp [h1, h2]
        simp only [h1', h2', decide_true, cond_true, Option.bind_some, hl, if_true, ih]
        congr 2; omega
      · have h2' : ¬ ((s[k].toNat : Nat) : Int) ≤ 122 := by omega
        have hl : letB s[k] = false := by unfold letB; simp [h2]
        simp only [h1', h2', decide_true, decide_false, cond_true, cond_false, Option.bind_some, hl]
        simp
    · have h1' : ¬ (97 : Int) ≤ ((s[k].toNat : Nat) : Int) := by omega
      have hl : letB s[k] = false := by unfold letB; simp [h1]
      simp only [h1', decide_false, cond_false, Option.bind_some, hl]
      simp
theorem name_eq (s : Bs) (hs : s.length ≤ 1000000000) : mark_name s = some ((lets s : Nat) : Int) := by
  unfold mark_name
  have e := name_loop s hs _ (fun _ => rfl) s.length 0 (by omega)
  have e : loopC _ (0 : Int) = _ := e
  rw [e]
  simp
theorem blanked_eq (b : UInt8) : mark_blanked ((b.toNat : Nat) : Int) = some (blkB b) := by
  have c1 : decide (((b.toNat : Nat) : Int) = 9) = (b == 9) := nat8 b 9
  have c2 : decide (((b.toNat : Nat) : Int) = 32) = (b == 32) := nat8 b 32
  unfold mark_blanked
  rw [c1, c2]
  unfold blkB
  cases b == 9 <;> cases b == 32 <;> rfl
def spcB (b : UInt8) : Bool := b == 92 || b == 123 || b == 125 || b == 124 || b == 46 || b == 35
/-- may a name of k letters end there? -/
def endB (k : Nat) (r : Bs) : Bool := k == 0 || decide (12 < k) || (match r with | [] => false | d :: _ => !(blkB d) && (d != 124) && (d != 125))
/-- the first character -/
def chrB (r : Bs) : Bs := r.take (Lib.decodeL r).2
/-- a step: what stands first in (b :: r), at a column: how many bytes behind b are done too, and the state -/
def stepS (x : Lx) (c : Nat) (b : UInt8) (r : Bs) : Except Wr (Nat × Lx) :=
  if blkB b then .ok (0, waitS x c)
  else if b = 92 then (match r with
    | [] => .error ⟨42, x.line, c, []⟩
    | d :: _ => if spcB d then .ok (1, putS (settleS x) [d] x.line c) else .error ⟨42, x.line, c, chrB r⟩)
  else if b = 123 then
    (if endB (lets r) (r.drop (lets r)) then .error ⟨43, x.line, c, []⟩
     else if 16 ≤ x.opn.length then .error ⟨46, x.line, c, r.take (lets r)⟩
     else .ok (lets r, { tokS x 3 (r.take (lets r)) c with opn := x.opn ++ [(r.take (lets r), (x.line : Int), (c : Int), ())], fresh := true }))
  else if b = 125 then
    (if x.opn = [] then .error ⟨44, x.line, c, []⟩ else .ok (0, { tokS x 5 [] c with opn := x.opn.dropLast }))
  else if b = 124 ∧ x.opn ≠ [] then .ok (0, tokS x 4 [] c)
  else .ok (0, putS (settleS x) [b] x.line c)
/-- a text's bytes, from a column on; the first k are done -/
def textS : Nat → Lx → Nat → Bs → Except Wr Lx
  | _, x, c, [] => .ok (waitS x c)
  | k + 1, x, c, _ :: r => textS k x (c + 1) r
  | 0, x, c, b :: r => match stepS x c b r with
    | .error w => .error w
    | .ok p => textS p.1 p.2 (c + 1) r
theorem textS_skip : ∀ (k : Nat) (x : Lx) (c : Nat) (l : Bs), k ≤ l.length → textS k x c l = textS 0 x (c + k) (l.drop k)
  | 0, _, _, _, _ => rfl
  | k + 1, x, c, [], h => by simp at h
  | k + 1, x, c, b :: r, h => by
    rw [textS, textS_skip k x (c + 1) r (by simpa using h), List.drop_succ_cons]
    congr 1; omega
/-- bytes that no step knows by name -/
def dullB (b : UInt8) : Bool := !(blkB b) && b != 92 && b != 123 && b != 125 && b != 124
theorem step_dull {x : Lx} {c : Nat} {b : UInt8} {r : Bs} (h : dullB b = true) : stepS x c b r = .ok (0, putS (settleS x) [b] x.line c) := by
  unfold dullB at h
  simp only [Bool.and_eq_true, Bool.not_eq_true', bne_iff_ne, ne_eq] at h
  obtain ⟨⟨⟨⟨h1, h2⟩, h3⟩, h4⟩, h5⟩ := h
  unfold stepS
  simp [h1, h2, h3, h4, h5]
theorem settle_put (x : Lx) (s : Bs) (l c : Int) : settleS (putS (settleS x) s l c) = putS (settleS x) s l c := by
  unfold settleS
  cases hx : x.bl <;> simp [putS]
theorem put_put (x : Lx) (s t : Bs) (l c l' c' : Int) : putS (putS x s l c) t l' c' = putS x (s ++ t) l c := by
  unfold putS
  cases x.run <;> simp
theorem put_line (x : Lx) (s : Bs) (l c : Int) : (putS x s l c).line = x.line := rfl
/-- a run of dull bytes is put at once -/
theorem text_dull : ∀ (u : Bs) (x : Lx) (s : Bs) (c c' : Nat) (r : Bs), (∀ b ∈ u, dullB b = true) →
    textS 0 (putS (settleS x) s x.line c) c' (u ++ r) = textS 0 (putS (settleS x) (s ++ u) x.line c) (c' + u.length) r
  | [], x, s, c, c', r, _ => by simp
  | b :: u, x, s, c, c', r, h => by
    rw [List.cons_append, textS, step_dull (h b (by simp))]
    simp only [settle_put, put_put]
    rw [text_dull u x (s ++ [b]) c (c' + 1) r (fun d hd => h d (by simp [hd]))]
    simp only [List.append_assoc, List.singleton_append, List.length_cons]
    congr 1; omega
theorem decodeGo_L (l : Bs) (h : l ≠ []) : Lib.decodeGo ⟨l.toArray⟩ = Lib.decodeL l := by
  unfold Lib.decodeGo Lib.decodeL
  have : (⟨l.toArray⟩ : ByteArray).size ≠ 0 := by
    show l.toArray.size ≠ 0
    simpa using h
  rw [if_neg this]
theorem getD_drop1 (b : UInt8) (r : Bs) (i : Nat) : (b :: r).getD (i + 1) 0 = r.getD i 0 := by simp
theorem dull_cont (d : UInt8) (h : d.toNat / 64 = 2) : dullB d = true := by
  have hne : ∀ k : UInt8, k.toNat < 128 → d ≠ k := fun k hk e => by subst e; omega
  unfold dullB blkB
  simp [hne 9 (by decide), hne 32 (by decide), hne 92 (by decide), hne 123 (by decide), hne 125 (by decide), hne 124 (by decide)]
/-- a character's further bytes are dull -/
theorem conts_dull (b : UInt8) (r : Bs) : ∀ d ∈ r.take ((Lib.decodeL (b :: r)).2 - 1), dullB d = true := by
  intro d hd
  have hc := Lib.decodeN_conts (b :: r).length ((b :: r).getD 0 0).toNat ((b :: r).getD 1 0).toNat ((b :: r).getD 2 0).toNat ((b :: r).getD 3 0).toNat
  rw [← Lib.decodeL_N] at hc
  obtain ⟨c2, c3, c4, c5⟩ := hc
  obtain ⟨i, hi, he⟩ := List.mem_iff_getElem.1 hd
  rw [List.length_take] at hi
  rw [List.getElem_take] at he
  have hg : r.getD i 0 = d := by rw [List.getD_eq_getElem?_getD, List.getElem?_eq_getElem (by omega)]; exact he
  have h4 : i < 3 := by omega
  rw [getD_drop1] at c2 c3 c4
  refine dull_cont d ?_
  match i, h4 with
  | 0, _ => rw [← hg]; exact (c2 (by omega)).1
  | 1, _ => rw [← hg]; exact (c3 (by omega)).1
  | 2, _ => rw [← hg]; exact (c4 (by omega)).1
theorem sub_end {α : Type} {l : List α} {a : Nat} (h : a ≤ l.length) : sub l (a : Int) ((l.length : Nat) : Int) = some (l.drop a) := by
  rw [sub_nat h (Nat.le_refl _), List.take_of_length_le (by simp)]
theorem sub_len {α : Type} {l : List α} {a k : Nat} (h : a + k ≤ l.length) : sub l (a : Int) ((a + k : Nat) : Int) = some ((l.drop a).take k) := by
  rw [sub_nat (by omega) h]; congr 2; omega
theorem special6_ix (b : UInt8) : decide (0 ≤ Lib.indexByte [92, 123, 125, 124, 46, 35] ((b.toNat : Int).toNat.toUInt8)) = spcB b := by
  have : (b.toNat : Int).toNat.toUInt8 = b := by simp
  rw [this]
  by_cases h1 : b = 92
  · subst h1; rfl
  by_cases h2 : b = 123
  · subst h2; rfl
  by_cases h3 : b = 125
  · subst h3; rfl
  by_cases h4 : b = 124
  · subst h4; rfl
  by_cases h5 : b = 46
  · subst h5; rfl
  by_cases h6 : b = 35
  · subst h6; rfl
  simp [Lib.indexByte, spcB, h1, h2, h3, h4, h5, h6, Ne.symm h1, Ne.symm h2, Ne.symm h3, Ne.symm h4, Ne.symm h5, Ne.symm h6]
/-- what the function of one character says -/
def ChrR (res : Option (Int × ErrT × LxT)) (x : Lx) (l : Bs) (i n : Nat) : Prop :=
  (∃ w k t, res = some (k, Wr.e w, t) ∧ textS 0 x (i + 1) (l.drop i) = .error w) ∨
  (∃ (k : Nat) (y : Lx), res = some ((k : Int), none, y.t) ∧ 1 ≤ k ∧ i + k ≤ l.length ∧ textS 0 x (i + 1) (l.drop i) = textS 0 y (i + k + 1) (l.drop (i + k)) ∧ y.Ok (n + 8))
theorem decode_go (r : Bs) : utf8_DecodeRuneInString r = some (((Lib.decodeGo ⟨r.toArray⟩).1 : Int), ((Lib.decodeGo ⟨r.toArray⟩).2 : Int)) := if_pos trivial
theorem escape_eq {x : Lx} {n : Nat} (h : x.Ok n) (l : Bs) (i : Nat) (hi : i < l.length) (hb : l[i] = 92) (hl : l.length ≤ 100000) (hn : n ≤ 100000000) : ChrR (mark_lexer__escape x.t l (i : Int)) x l i n := by
  have hd : l.drop i = 92 :: l.drop (i + 1) := by rw [List.drop_eq_getElem_cons hi, hb]
  have hw : IntKind.wrap .i64 ((i : Int) + 1) = ((i + 1 : Nat) : Int) := wrapS (by omega)
  have hw2 : IntKind.wrap .i64 ((i : Int) + 2) = ((i + 1 + 1 : Nat) : Int) := by rw [wrap64 (by omega) (by omega)]; omega
  have hln : x.t.2.2.2.2.2.2.1 = ((x.line : Nat) : Int) := rfl
  have hT : textS 0 x (i + 1) (l.drop i) = match stepS x (i + 1) 92 (l.drop (i + 1)) with | .error w => .error w | .ok p => textS p.1 p.2 (i + 1 + 1) (l.drop (i + 1)) := by rw [hd]; rfl
  unfold mark_lexer__escape
  rw [hw, hw2]
  by_cases h1 : i + 1 < l.length
  · have h1' : ((i + 1 : Nat) : Int) < ((l.length : Nat) : Int) := by omega
    have hd2 : l.drop (i + 1) = l[i + 1] :: l.drop (i + 1 + 1) := List.drop_eq_getElem_cons h1
    have hg : idx l ((i + 1 : Nat) : Int) = some l[i + 1] := by rw [idx_nat, List.getElem?_eq_getElem h1]
    have hx : ∀ z : Int, strings_IndexByte [92, 123, 125, 124, 46, 35] z = some (Lib.indexByte [92, 123, 125, 124, 46, 35] z.toNat.toUInt8) := fun _ => if_pos trivial
    simp only [h1', decide_true, cond_true, hg, Option.bind_some, hx, special6_ix]
    cases hs : spcB l[i + 1] with
    | true =>
      have ho := settle_ok (m := n + 1) h (Nat.le_refl _)
      have hsub : sub l ((i + 1 : Nat) : Int) ((i + 1 + 1 : Nat) : Int) = some [l[i + 1]] := by
        rw [sub_len (k := 1) (by omega), hd2]; rfl
      have hl2 : (settleS x).t.2.2.2.2.2.2.1 = ((x.line : Nat) : Int) := by show (((settleS x).line : Nat) : Int) = _; rw [settle_line]
      simp only [cond_true, settle_eq h (by omega), Option.bind_some, hsub, hl2]
      rw [put_eq ho _ _ _ (by simp; omega)]
      refine .inr ⟨2, putS (settleS x) [l[i + 1]] x.line ((i + 1 : Nat) : Int), rfl, by omega, by omega, ?_, put_ok ho _ _ _ (by simp) (by simp)⟩
      rw [hT]
      unfold stepS
      rw [hd2]
      simp only [show blkB 92 = false from rfl, Bool.false_eq_true, if_false, if_true, hs]
      rw [textS]
    | false =>
      have hs2 : sub l ((i + 1 : Nat) : Int) ((l.length : Nat) : Int) = some (l.drop (i + 1)) := sub_end (by omega)
      have hne : l.drop (i + 1) ≠ [] := by rw [hd2]; exact List.cons_ne_nil _ _
      have hwd := Lib.decodeL_le (l.drop (i + 1)) hne
      rw [List.length_drop] at hwd
      have hw3 : IntKind.wrap .i64 (((i + 1 : Nat) : Int) + ((Lib.decodeL (l.drop (i + 1))).2 : Int)) = ((i + 1 + (Lib.decodeL (l.drop (i + 1))).2 : Nat) : Int) := by rw [wrap64 (by omega) (by omega)]; omega
      simp only [cond_false, Option.bind_some, hs2, decode_go, decodeGo_L _ hne, hw3]
      rw [sub_len (by omega)]
      simp only [Option.bind_some, hln]
      rw [wrong_eq _ _ _ _ (by decide)]
      refine .inl ⟨⟨42, x.line, ((i + 1 : Nat) : Int), chrB (l.drop (i + 1))⟩, 0, x.t, rfl, ?_⟩
      rw [hT]
      unfold stepS
      rw [hd2]
      simp only [show blkB 92 = false from rfl, Bool.false_eq_true, if_false, if_true]
      simp only [hs, Bool.false_eq_true, if_false]
  · have h1' : ¬ ((i + 1 : Nat) : Int) < ((l.length : Nat) : Int) := by omega
    have hd2 : l.drop (i + 1) = [] := List.drop_eq_nil_of_le (by omega)
    simp only [h1', decide_false, cond_false, Option.bind_some, hln]
    rw [wrong_eq _ _ _ _ (by decide)]
    refine .inl ⟨⟨42, x.line, ((i + 1 : Nat) : Int), []⟩, 0, x.t, rfl, ?_⟩
    rw [hT, hd2]
    rfl
theorem condE (p1 p2 p3 : Bool) (a b c : Bool) (x : LxT) : (bif !p1 then bif !p2 then bif p3 then bif !a then bif b then some (c, x) else some (false, x) else some (false, x) else some (false, x) else some (true, x) else some (true, x)) = some (p1 || p2 || (p3 && !a && b && c), x) := by
  cases p1 <;> cases p2 <;> cases p3 <;> cases a <;> cases b <;> rfl
theorem brace_eq {x : Lx} {n : Nat} (h : x.Ok n) (l : Bs) (i : Nat) (hi : i < l.length) (hb : l[i] = 123) (hl : l.length ≤ 100000) (hn : n ≤ 100000000) : ChrR (mark_lexer__brace x.t l (i : Int)) x l i n := by
  have hd : l.drop i = 123 :: l.drop (i + 1) := by rw [List.drop_eq_getElem_cons hi, hb]
  have hw : IntKind.wrap .i64 ((i : Int) + 1) = ((i + 1 : Nat) : Int) := wrapS (by omega)
  have hT : textS 0 x (i + 1) (l.drop i) = match stepS x (i + 1) 123 (l.drop (i + 1)) with | .error w => .error w | .ok p => textS p.1 p.2 (i + 1 + 1) (l.drop (i + 1)) := by rw [hd]; rfl
  have hs2 : sub l ((i + 1 : Nat) : Int) ((l.length : Nat) : Int) = some (l.drop (i + 1)) := sub_end (by omega)
  have hk := lets_le (l.drop (i + 1))
  rw [List.length_drop] at hk
  unfold mark_lexer__brace
  rw [hw, hs2]
  simp only [Option.bind_some]
  rw [name_eq _ (by rw [List.length_drop]; omega)]
  simp only [Option.bind_some]
  generalize hkd : lets (l.drop (i + 1)) = k at *
  have hw3 : IntKind.wrap .i64 (((i + 1 : Nat) : Int) + (k : Int)) = ((i + 1 + k : Nat) : Int) := by rw [wrap64 (by omega) (by omega)]; omega
  have hw4 : IntKind.wrap .i64 ((1 : Int) + (k : Int)) = ((1 + k : Nat) : Int) := by rw [wrap64 (by omega) (by omega)]; omega
  rw [hw3, hw4]
  have k0 : decide (((k : Nat) : Int) = 0) = (k == 0) := by
    by_cases h : k = 0
    · subst h; rfl
    · have : ¬ ((k : Nat) : Int) = 0 := by omega
      simp [this, h]
  have k12 : decide ((12 : Int) < ((k : Nat) : Int)) = decide (12 < k) := by
    by_cases h : 12 < k
    · have : (12 : Int) < ((k : Nat) : Int) := by omega
      simp [this, h]
    · have : ¬ (12 : Int) < ((k : Nat) : Int) := by omega
      simp [this, h]
  rw [k0, k12]
  have hdd : (l.drop (i + 1)).drop k = l.drop (i + 1 + k) := by rw [List.drop_drop]
  have hE : (bif !(k == 0) then bif !(decide (12 < k)) then bif (decide (((i + 1 + k : Nat) : Int) < ((l.length : Nat) : Int))) then ((Go.Lf.idx l ((i + 1 + k : Nat) : Int))).bind fun r3 =>
   ((Go.Fn.mark_blanked (((UInt8.toNat r3) : Nat) : Int))).bind fun r4 =>
   bif (!r4) then ((Go.Lf.idx l ((i + 1 + k : Nat) : Int))).bind fun r5 =>
   bif (decide (((((UInt8.toNat r5) : Nat) : Int) : Int) ≠ (124 : Int))) then ((Go.Lf.idx l ((i + 1 + k : Nat) : Int))).bind fun r6 =>
   some ((decide (((((UInt8.toNat r6) : Nat) : Int) : Int) ≠ (125 : Int))), x.t)
   else some (false, x.t)
   else some (false, x.t)
   else some (false, x.t)
   else some (true, x.t)
   else some (true, x.t)) = some (endB k ((l.drop (i + 1)).drop k), x.t) := by
    rw [hdd]
    by_cases h1 : i + 1 + k < l.length
    · have h1' : ((i + 1 + k : Nat) : Int) < ((l.length : Nat) : Int) := by omega
      have hg : idx l ((i + 1 + k : Nat) : Int) = some l[i + 1 + k] := by rw [idx_nat, List.getElem?_eq_getElem h1]
      have c1 : decide (((l[i + 1 + k].toNat : Nat) : Int) = 124) = (l[i + 1 + k] == 124) := nat8 _ 124
      have c2 : decide (((l[i + 1 + k].toNat : Nat) : Int) = 125) = (l[i + 1 + k] == 125) := nat8 _ 125
      simp only [h1', decide_true, hg, Option.bind_some, blanked_eq, ne_eq, decide_not, c1, c2]
      rw [condE, List.drop_eq_getElem_cons h1]
      unfold endB
      simp [bne]
    · have h1' : ¬ ((i + 1 + k : Nat) : Int) < ((l.length : Nat) : Int) := by omega
      rw [List.drop_eq_nil_of_le (by omega)]
      simp only [h1', decide_false, cond_false]
      unfold endB
      cases k == 0 <;> cases decide (12 < k) <;> rfl
  rw [hE]
  simp only [Option.bind_some]
  have hln : x.t.2.2.2.2.2.2.1 = ((x.line : Nat) : Int) := rfl
  have hop : x.t.2.1 = x.opn := rfl
  have hst : stepS x (i + 1) 123 (l.drop (i + 1)) = (if endB k ((l.drop (i + 1)).drop k) then .error ⟨43, x.line, ((i + 1 : Nat) : Int), []⟩
     else if 16 ≤ x.opn.length then .error ⟨46, x.line, ((i + 1 : Nat) : Int), (l.drop (i + 1)).take k⟩
     else .ok (k, { tokS x 3 ((l.drop (i + 1)).take k) ((i + 1 : Nat) : Int) with opn := x.opn ++ [((l.drop (i + 1)).take k, (x.line : Int), ((i + 1 : Nat) : Int), ())], fresh := true })) := by
    unfold stepS
    rw [hkd]
    simp only [show blkB 123 = false from rfl, Bool.false_eq_true, if_false, show ¬ ((123 : UInt8) = 92) by decide, if_true]
  cases he : endB k ((l.drop (i + 1)).drop k) with
  | true =>
    simp only [cond_true, hln]
    rw [wrong_eq _ _ _ _ (by decide)]
    refine .inl ⟨⟨43, x.line, ((i + 1 : Nat) : Int), []⟩, 0, x.t, rfl, ?_⟩
    rw [hT, hst, he]
    rfl
  | false =>
    rw [he] at hst
    simp only [cond_false]
    rw [sub_len (by omega)]
    simp only [Option.bind_some, hop]
    by_cases h16 : 16 ≤ x.opn.length
    · have h16' : (16 : Int) ≤ ((x.opn.length : Nat) : Int) := by omega
      simp only [h16', decide_true, cond_true, hln]
      rw [wrong_eq _ _ _ _ (by decide)]
      refine .inl ⟨⟨46, x.line, ((i + 1 : Nat) : Int), (l.drop (i + 1)).take k⟩, 0, x.t, rfl, ?_⟩
      rw [hT, hst, if_neg (by decide), if_pos h16]
    · have h16' : ¬ (16 : Int) ≤ ((x.opn.length : Nat) : Int) := by omega
      have ht := tok_ok (m := n + 3) h 3 ((l.drop (i + 1)).take k) ((i + 1 : Nat) : Int) (Nat.le_refl _)
      simp only [h16', decide_false, cond_false]
      rw [token_eq h _ _ _ (by omega)]
      have e1 : (tokS x 3 ((l.drop (i + 1)).take k) ((i + 1 : Nat) : Int)).t.2.1 = x.opn := tok_opn x 3 ((l.drop (i + 1)).take k) ((i + 1 : Nat) : Int)
      have e2 : (tokS x 3 ((l.drop (i + 1)).take k) ((i + 1 : Nat) : Int)).t.2.2.2.2.2.2.1 = ((x.line : Nat) : Int) := by rw [← tok_line x 3 ((l.drop (i + 1)).take k) ((i + 1 : Nat) : Int)]; rfl
      have ha : app 32 x.opn [((l.drop (i + 1)).take k, ((x.line : Nat) : Int), ((i + 1 : Nat) : Int), ())] = some (x.opn ++ [((l.drop (i + 1)).take k, ((x.line : Nat) : Int), ((i + 1 : Nat) : Int), ())]) := app_of (by simp; omega)
      simp only [Option.bind_some, e1, e2, ha]
      refine .inr ⟨1 + k, { tokS x 3 ((l.drop (i + 1)).take k) ((i + 1 : Nat) : Int) with opn := x.opn ++ [((l.drop (i + 1)).take k, ((x.line : Nat) : Int), ((i + 1 : Nat) : Int), ())], fresh := true }, rfl, by omega, by omega, ?_, ?_⟩
      · rw [hT, hst, if_neg (by decide), if_neg h16]
        show textS k _ (i + 1 + 1) (l.drop (i + 1)) = _
        rw [textS_skip k _ _ _ (by rw [List.length_drop]; omega), hdd]
        congr 1
        · omega
        · congr 1; omega
      · exact ⟨Nat.le_trans ht.out (by omega), by simp; omega, fun r hr => (by cases hr), ht.bl⟩
theorem tok_bl (x : Lx) (k : Int) (s : Bs) (c : Int) : (tokS x k s c).bl = none := by
  show (settleS x).bl = none
  unfold settleS
  split
  · assumption
  · rfl
theorem char_eq {x : Lx} {n : Nat} (h : x.Ok n) (l : Bs) (i : Nat) (hi : i < l.length) (hl : l.length ≤ 100000) (hn : n ≤ 100000000) : ChrR (mark_lexer__char x.t l (i : Int)) x l i n := by
  have hd : l.drop i = l[i] :: l.drop (i + 1) := List.drop_eq_getElem_cons hi
  have hw : IntKind.wrap .i64 ((i : Int) + 1) = ((i + 1 : Nat) : Int) := wrapS (by omega)
  have hg : idx l (i : Int) = some l[i] := by rw [idx_nat, List.getElem?_eq_getElem hi]
  have hT : textS 0 x (i + 1) (l.drop i) = match stepS x (i + 1) l[i] (l.drop (i + 1)) with | .error w => .error w | .ok p => textS p.1 p.2 (i + 1 + 1) (l.drop (i + 1)) := by rw [hd]; rfl
  have hln : x.t.2.2.2.2.2.2.1 = ((x.line : Nat) : Int) := rfl
  have hop : x.t.2.1 = x.opn := rfl
  have c1 : decide (((l[i].toNat : Nat) : Int) = 92) = (l[i] == 92) := nat8 _ 92
  have c2 : decide (((l[i].toNat : Nat) : Int) = 123) = (l[i] == 123) := nat8 _ 123
  have c3 : decide (((l[i].toNat : Nat) : Int) = 125) = (l[i] == 125) := nat8 _ 125
  have c4 : decide (((l[i].toNat : Nat) : Int) = 124) = (l[i] == 124) := nat8 _ 124
  unfold mark_lexer__char
  simp only [hg, Option.bind_some, blanked_eq, hw, c1, c2, c3, c4, hln, hop]
  cases hbk : blkB l[i] with
  | true =>
    simp only [cond_true]
    rw [wait_eq h]
    refine .inr ⟨1, waitS x ((i + 1 : Nat) : Int), rfl, by omega, by omega, ?_, (wait_ok h _ (by omega)).mono (by omega)⟩
    rw [hT]
    unfold stepS
    rw [hbk]
    rfl
  | false =>
    simp only [cond_false]
    by_cases h92 : l[i] = 92
    · have hE := escape_eq h l i hi h92 hl hn
      simp only [h92, beq_self_eq_true, cond_true]
      rcases hE with ⟨w, k, t, e, e2⟩ | ⟨k, y, e, e2⟩
      · rw [e]; exact .inl ⟨w, k, t, rfl, e2⟩
      · rw [e]; exact .inr ⟨k, y, rfl, e2⟩
    have b92 : (l[i] == 92) = false := by simpa using h92
    by_cases h123 : l[i] = 123
    · have hE := brace_eq h l i hi h123 hl hn
      rw [b92]
      simp only [h123, beq_self_eq_true, cond_true, cond_false]
      rcases hE with ⟨w, k, t, e, e2⟩ | ⟨k, y, e, e2⟩
      · rw [e]; exact .inl ⟨w, k, t, rfl, e2⟩
      · rw [e]; exact .inr ⟨k, y, rfl, e2⟩
    have b123 : (l[i] == 123) = false := by simpa using h123
    by_cases h125 : l[i] = 125
    · have hst : stepS x (i + 1) l[i] (l.drop (i + 1)) = (if x.opn = [] then .error ⟨44, x.line, ((i + 1 : Nat) : Int), []⟩ else .ok (0, { tokS x 5 [] ((i + 1 : Nat) : Int) with opn := x.opn.dropLast })) := by
        unfold stepS
        simp only [show blkB 125 = false from rfl, h125, Bool.false_eq_true, if_false, show ¬ ((125 : UInt8) = 92) by decide, show ¬ ((125 : UInt8) = 123) by decide, if_true]
      rw [b92, b123]
      simp only [h125, beq_self_eq_true, cond_true, cond_false]
      rw [hst] at hT
      by_cases ho : x.opn = []
      · rw [if_pos ho] at hT
        simp only [ho, List.length_nil]
        rw [wrong_eq _ _ _ _ (by decide)]
        exact .inl ⟨⟨44, x.line, ((i + 1 : Nat) : Int), []⟩, 0, x.t, rfl, hT⟩
      · rw [if_neg ho] at hT
        have hpos := List.length_pos_iff.2 ho
        have h16 := h.opn
        have h0 : ¬ ((x.opn.length : Nat) : Int) = 0 := by omega
        have ht := tok_ok (m := n + 3) h 5 [] ((i + 1 : Nat) : Int) (Nat.le_refl _)
        have e1 : (tokS x 5 [] ((i + 1 : Nat) : Int)).t.2.1 = x.opn := tok_opn x 5 [] ((i + 1 : Nat) : Int)
        have hw5 : IntKind.wrap .i64 (((x.opn.length : Nat) : Int) - 1) = ((x.opn.length - 1 : Nat) : Int) := by rw [wrap64 (by omega) (by omega)]; omega
        have hsb : sub x.opn (0 : Int) ((x.opn.length - 1 : Nat) : Int) = some x.opn.dropLast := by
          have := sub_nat (l := x.opn) (a := 0) (b := x.opn.length - 1) (by omega) (by omega)
          rw [List.dropLast_eq_take]
          simpa using this
        simp only [h0, decide_false, cond_false]
        rw [token_eq h _ _ _ (by omega)]
        simp only [Option.bind_some, e1, hw5, hsb]
        refine .inr ⟨1, { tokS x 5 [] ((i + 1 : Nat) : Int) with opn := x.opn.dropLast }, rfl, by omega, by omega, hT, ?_⟩
        exact ⟨Nat.le_trans ht.out (by omega), by simp; omega, fun r hr => (by cases hr), ht.bl⟩
    have b125 : (l[i] == 125) = false := by simpa using h125
    rw [b92, b123, b125]
    simp only [cond_false]
    have hbar : (bif (l[i] == 124) then some ((decide ((0 : Int) < (((List.length x.opn) : Nat) : Int))), x.t) else some (false, x.t)) = some ((l[i] == 124) && decide (x.opn ≠ []), x.t) := by
      have : decide ((0 : Int) < (((List.length x.opn) : Nat) : Int)) = decide (x.opn ≠ []) := by
        cases x.opn with
        | nil => rfl
        | cons a b => simp
      rw [this]
      cases l[i] == 124 <;> rfl
    rw [hbar]
    simp only [Option.bind_some]
    by_cases hbr : l[i] = 124 ∧ x.opn ≠ []
    · have e : ((l[i] == 124) && decide (x.opn ≠ [])) = true := by simp [hbr.1, hbr.2]
      rw [e]
      simp only [cond_true]
      rw [token_eq h _ _ _ (by omega)]
      refine .inr ⟨1, tokS x 4 [] ((i + 1 : Nat) : Int), rfl, by omega, by omega, ?_, tok_ok h _ _ _ (by omega)⟩
      rw [hT]
      unfold stepS
      simp only [hbk, Bool.false_eq_true, if_false, h92, h123, h125]
      rw [if_pos hbr]
    · have e : ((l[i] == 124) && decide (x.opn ≠ [])) = false := by
        by_cases q : l[i] = 124
        · have : x.opn = [] := Classical.byContradiction fun hc => hbr ⟨q, hc⟩
          simp [this]
        · simp [q]
      rw [e]
      simp only [cond_false]
      have hs2 : sub l (i : Int) ((l.length : Nat) : Int) = some (l.drop i) := sub_end (by omega)
      have hne : l.drop i ≠ [] := by rw [hd]; exact List.cons_ne_nil _ _
      have hle := Lib.decodeL_le (l.drop i) hne
      have hpos := Lib.decodeL_width (l.drop i)
      have hcont := conts_dull l[i] (l.drop (i + 1))
      rw [← hd] at hcont
      rw [List.length_drop] at hle
      simp only [hs2, decode_go, decodeGo_L _ hne, Option.bind_some]
      have hle4 : (Lib.decodeL (l.drop i)).2 ≤ 4 := by rw [Lib.decodeL_N]; exact (Lib.decodeN_conts _ _ _ _ _).2.2.2
      generalize (Lib.decodeL (l.drop i)).2 = w at hle hle4 hpos hcont ⊢
      obtain ⟨v, rfl⟩ : ∃ v, w = v + 1 := ⟨w - 1, by omega⟩
      rw [Nat.add_sub_cancel] at hcont
      have hst : stepS x (i + 1) l[i] (l.drop (i + 1)) = .ok (0, putS (settleS x) [l[i]] x.line ((i + 1 : Nat) : Int)) := by
        unfold stepS
        simp only [hbk, Bool.false_eq_true, if_false, h92, h123, h125]
        rw [if_neg hbr]
      rw [hst] at hT
      have hT : textS 0 x (i + 1) (l.drop i) = textS 0 (putS (settleS x) [l[i]] x.line ((i + 1 : Nat) : Int)) (i + 1 + 1) (l.drop (i + 1)) := hT
      have hc2 : ∀ d ∈ (l.drop (i + 1)).take v, dullB d = true := hcont
      have hsp : l.drop (i + 1) = (l.drop (i + 1)).take v ++ l.drop (i + (v + 1)) := by
        have := (List.take_append_drop v (l.drop (i + 1))).symm
        rw [List.drop_drop] at this
        rw [show i + (v + 1) = i + 1 + v by omega]
        exact this
      have hlen : ((l.drop (i + 1)).take v).length = v := by rw [List.length_take, List.length_drop]; omega
      have htk : (l.drop i).take (v + 1) = [l[i]] ++ (l.drop (i + 1)).take v := by rw [hd]; rfl
      have ho := settle_ok (m := n + 1) h (Nat.le_refl _)
      have hw6 : IntKind.wrap .i64 ((i : Int) + ((v + 1 : Nat) : Int)) = ((i + (v + 1) : Nat) : Int) := by rw [wrap64 (by omega) (by omega)]; omega
      have hl2 : (settleS x).t.2.2.2.2.2.2.1 = ((x.line : Nat) : Int) := by show (((settleS x).line : Nat) : Int) = _; rw [settle_line]
      have hv4 : v + 1 ≤ 4 := hle4
      rw [settle_eq h (by omega)]
      simp only [Option.bind_some, hw6, hl2]
      rw [sub_len (by omega)]
      simp only [Option.bind_some]
      rw [put_eq ho _ _ _ (by rw [htk]; simp; omega)]
      refine .inr ⟨v + 1, putS (settleS x) ((l.drop i).take (v + 1)) x.line ((i + 1 : Nat) : Int), rfl, by omega, by omega, ?_, put_ok ho _ _ _ (by rw [htk]; simp) (by rw [htk]; simp; omega)⟩
      rw [hT, hsp, text_dull _ _ _ _ _ _ hc2, hlen, htk]
      congr 1; omega
end Go.Fn
/- Chapter 4, plainly: a line of text, a line, a source. -/
namespace Go.Fn
open Go Go.Lf
theorem text_loop {l : Bs} (hl : l.length ≤ 100000) (B : Int × LxT → Option ((Int × LxT) ⊕ (LxT ⊕ (ErrT × LxT)))) (hB : ∀ z2, B z2 = (bif (decide (z2.1 < (((List.length l) : Nat) : Int))) then ((Go.Fn.mark_lexer__char z2.2 l z2.1)).bind fun r3 =>
     bif (Option.isSome r3.2.1) then some (.inr (.inr (r3.2.1, r3.2.2)))
     else some (.inl ((Go.IntKind.wrap .i64 (z2.1 + r3.1)), r3.2.2))
     else some (.inr (.inl z2.2)))) : ∀ (m i n : Nat) (x : Lx), l.length ≤ i + m → i ≤ l.length → x.Ok n → n + 8 * (l.length - i) ≤ 100000000 →
     (∃ w t, loopC B ((i : Int), x.t) = some (.inr (Wr.e w, t)) ∧ textS 0 x (i + 1) (l.drop i) = .error w) ∨
     (∃ y : Lx, loopC B ((i : Int), x.t) = some (.inl y.t) ∧ textS 0 x (i + 1) (l.drop i) = .ok (waitS y ((l.length + 1 : Nat) : Int)) ∧ y.Ok (n + 8 * (l.length - i)))
  | 0, i, n, x, hm, hi, h, hn => by
    have h0 : ¬ (i : Int) < ((l.length : Nat) : Int) := by omega
    have he : i = l.length := by omega
    refine .inr ⟨x, ?_, ?_, h.mono (by omega)⟩
    · rw [loopC_step, hB]
      simp only [h0, decide_false, cond_false, Option.bind_some]
    · subst he
      rw [List.drop_length, textS]
  | m + 1, i, n, x, hm, hi, h, hn => by
    by_cases h0 : i < l.length
    · have h0' : (i : Int) < ((l.length : Nat) : Int) := by omega
      rcases char_eq h l i h0 hl (by omega) with ⟨w, k, t, e, e2⟩ | ⟨k, y, e, k1, k2, e2, hy⟩
      · refine .inl ⟨w, t, ?_, e2⟩
        rw [loopC_step, hB]
        simp only [h0', decide_true, cond_true, e, Option.bind_some]
        rfl
      · have hw : IntKind.wrap .i64 ((i : Int) + (k : Int)) = ((i + k : Nat) : Int) := by rw [wrap64 (by omega) (by omega)]; omega
        have hs : loopC B ((i : Int), x.t) = loopC B (((i + k : Nat) : Int), y.t) := by
          rw [loopC_step, hB]
          simp only [h0', decide_true, cond_true, e, Option.bind_some, hw]
          rfl
        rw [hs, e2]
        have ih := text_loop hl B hB m (i + k) (n + 8) y (by omega) k2 hy (by omega)
        rcases ih with ⟨w, t, q1, q2⟩ | ⟨z, q1, q2, q3⟩
        · exact .inl ⟨w, t, q1, q2⟩
        · exact .inr ⟨z, q1, q2, q3.mono (by omega)⟩
    · have h0' : ¬ (i : Int) < ((l.length : Nat) : Int) := by omega
      have he : i = l.length := by omega
      refine .inr ⟨x, ?_, ?_, h.mono (by omega)⟩
      · rw [loopC_step, hB]
        simp only [h0', decide_false, cond_false, Option.bind_some]
      · subst he
        rw [List.drop_length, textS]
def beginS (x : Lx) : Lx := if x.ins = false then { x with ins := true, fresh := true } else x
theorem begin_ok {x : Lx} {n : Nat} (h : x.Ok n) : (beginS x).Ok n := by
  unfold beginS
  split
  · exact ⟨h.out, h.opn, h.run, h.bl⟩
  · exact h
/-- a state within bounds, told by a function -/
def ResK (r : Option (ErrT × LxT)) (s : Except Wr Lx) (n : Nat) : Prop := match s with
  | .ok y => r = some (none, y.t) ∧ y.Ok n
  | .error w => ∃ t, r = some (w.e, t)
theorem text_eq {x : Lx} {n : Nat} (h : x.Ok n) (l : Bs) (hl : l.length ≤ 100000) (hn : n ≤ 90000000) : ResK (mark_lexer__text x.t l) (textS 0 (beginS x) 1 l) (n + 8 * l.length) := by
  unfold mark_lexer__text
  have hb : (bif (decide ((x.t.2.2.1 : Int) = (0 : Int))) then some (x.t.1, (x.t.2.1, ((1 : Int), (x.t.2.2.2.1, (x.t.2.2.2.2.1, ((1 : Int), x.t.2.2.2.2.2.2)))))) else some x.t) = some (beginS x).t := by
    have e0 : x.t.2.2.1 = bI x.ins := rfl
    rw [e0, bI_zero]
    unfold beginS
    cases hi : x.ins <;> simp [Lx.t, bI, hi]
  have hL := text_loop hl _ (fun _ => rfl) l.length 0 n (beginS x) (by omega) (by omega) (begin_ok h) (by omega)
  rw [hb]
  simp only [Option.bind_some]
  have e0 : l.drop 0 = l := rfl
  rw [e0] at hL
  rcases hL with ⟨w, t, q1, q2⟩ | ⟨y, q1, q2, q3⟩
  · have q1 : loopC _ ((0 : Int), (beginS x).t) = _ := q1
    rw [q1, q2]
    exact ⟨t, rfl⟩
  · have q1 : loopC _ ((0 : Int), (beginS x).t) = _ := q1
    have hw : IntKind.wrap .i64 (((l.length : Nat) : Int) + 1) = ((l.length + 1 : Nat) : Int) := wrapS (by omega)
    rw [q1, q2]
    simp only [Option.bind_some, hw, onSum]
    rw [wait_eq q3]
    exact ⟨rfl, wait_ok (q3.mono (by omega)) _ (by omega)⟩
def untab (l : Bs) : Bs := l.map fun b => if b = 9 then 32 else b
theorem index_nil1 (c : UInt8) : Lib.index [] [c] = -1 := by rw [Lib.index_one]; rfl
theorem index_cons1 (b c : UInt8) (r : Bs) : Lib.index (b :: r) [c] = if b = c then 0 else if Lib.index r [c] = -1 then -1 else Lib.index r [c] + 1 := by
  rw [Lib.index_one, Lib.index_one, Lib.indexByte]
  by_cases h : b = c
  · simp [h]
  · simp [h]
theorem replaceK_tab : ∀ (l : Bs) (k : Nat), l.count 9 ≤ k → Lib.replaceK [9] [32] k l = untab l
  | [], k, _ => by
    cases k with
    | zero => rfl
    | succ k => rw [Lib.replaceK, index_nil1]; rfl
  | b :: r, k, h => by
    by_cases hb : b = 9
    · subst hb
      rw [List.count_cons_self] at h
      obtain ⟨k, rfl⟩ : ∃ k', k = k' + 1 := ⟨k - 1, by omega⟩
      have h0 : Lib.index (9 :: r) [9] = ((0 : Nat) : Int) := by rw [index_cons1]; rfl
      rw [Lib.replaceK_hit _ _ _ _ 0 h0]
      have := replaceK_tab r k (by omega)
      simpa [untab] using this
    · rw [List.count_cons_of_ne (by exact fun e => hb e)] at h
      have ih := replaceK_tab r k h
      have hc : Lib.replaceK [9] [32] k (b :: r) = b :: Lib.replaceK [9] [32] k r := by
        cases k with
        | zero => rfl
        | succ k =>
          have hix := index_cons1 b 9 r
          rw [if_neg hb] at hix
          by_cases hm : Lib.index r [9] = -1
          · rw [if_pos hm] at hix
            rw [Lib.replaceK, Lib.replaceK, hix, hm]
            rfl
          · rw [if_neg hm] at hix
            have hge := Lib.index_ge r [9]
            obtain ⟨i, hi⟩ : ∃ i : Nat, Lib.index r [9] = i := ⟨(Lib.index r [9]).toNat, by omega⟩
            rw [Lib.replaceK_hit _ _ _ r i hi, Lib.replaceK_hit _ _ _ (b :: r) (i + 1) (by rw [hix, hi]; rfl)]
            rfl
      rw [hc, ih]
      simp [untab, hb]
theorem replace_tab (l : Bs) : Lib.replaceAll l [9] [32] = untab l := by
  unfold Lib.replaceAll Lib.replace
  rw [if_neg (by decide)]
  refine replaceK_tab l _ ?_
  unfold Lib.replaceNum
  rw [if_pos (.inl (by decide)), Lib.count_one]
  exact Nat.le_refl _
theorem untab_len (l : Bs) : (untab l).length = l.length := List.length_map _
/-- is a text plain, and where not? -/
def plainS (l : Bs) : Int × Bool := plainF ⟨l.toArray⟩ l.length 0
theorem plainF_le (s : ByteArray) : ∀ (f p : Nat), 0 ≤ (plainF s f p).1 ∧ (plainF s f p).1 ≤ (s.size : Int)
  | 0, p => by simp [plainF]
  | f + 1, p => by
    unfold plainF
    split
    · split
      · exact ⟨by simp, by simp; omega⟩
      · exact plainF_le s f _
    · simp
def chkS (line : Nat) (l : Bs) : Option Wr :=
  if 4096 < l.length then some ⟨2, line, 1, []⟩ else if (plainS (untab l)).2 then none else some ⟨40, line, (plainS (untab l)).1 + 1, []⟩
def endB' (k : Nat) (r : Bs) : Bool := k == 0 || decide (12 < k) || (match r with | [] => false | d :: _ => !(blkB d))
def dirS (x : Lx) (l : Bs) : Except Wr Lx :=
  if endB' (lets (l.drop 1)) (l.drop (1 + lets (l.drop 1))) then .error ⟨41, x.line, 2, (l.drop 1).take (min (lets (l.drop 1)) 12)⟩
  else match endS x with
    | .error w => .error w
    | .ok y => .ok { y with out := y.out ++ [(1, (l.drop 1).take (lets (l.drop 1)), Lib.trimS (l.drop (1 + lets (l.drop 1))) [32, 9], (y.line : Int), 1, ())] }
/-- a line -/
def takeS (x : Lx) (l : Bs) : Except Wr Lx := match chkS x.line l with
  | some w => .error w
  | none =>
    if Lib.hasPrefix l [35] then .ok x
    else if Lib.trimS l [32, 9] = [] then (match endS x with
      | .error w => .error w
      | .ok y => .ok { y with out := y.out ++ [(2, [], [], (y.line : Int), 1, ())] })
    else if l.head? = some 46 then dirS x l
    else textS 0 (beginS x) 1 l
theorem check_eq (x : Lx) (l : Bs) (hl : l.length ≤ 65536) : match chkS x.line l with
    | some w => mark_lexer__check x.t l = some (w.e, x.t)
    | none => mark_lexer__check x.t l = some (none, x.t) := by
  have hln : x.t.2.2.2.2.2.2.1 = ((x.line : Nat) : Int) := rfl
  unfold mark_lexer__check chkS
  by_cases h : 4096 < l.length
  · have h' : (4096 : Int) < ((l.length : Nat) : Int) := by omega
    rw [if_pos h]
    simp only [h', decide_true, cond_true, hln]
    rw [wrong_eq _ _ _ _ (by decide)]
    rfl
  · have h' : ¬ (4096 : Int) < ((l.length : Nat) : Int) := by omega
    rw [if_neg h]
    have hcb := Lib.countB_le ⟨#[9]⟩ (by decide) l.length ⟨l.toArray⟩
    have hsz : (⟨l.toArray⟩ : ByteArray).size = l.length := Eng.str_size l
    rw [hsz] at hcb
    have hr : strings_ReplaceAll l [9] [32] = some (untab l) := by
      unfold strings_ReplaceAll
      have hc : Lib.countB ⟨l.toArray⟩ ⟨[(9 : UInt8)].toArray⟩ ≤ l.length := hcb (Nat.le_refl _)
      have hC : l.length < 4294967281 ∧ 1 ≤ ([9] : Bs).length ∧ l.length + Lib.countB ⟨l.toArray⟩ ⟨[(9 : UInt8)].toArray⟩ * ([32] : Bs).length ≤ 140737488355328 := ⟨by omega, by decide, by simp only [List.length_singleton]; omega⟩
      rw [if_pos hC, replace_tab]
    have hp : text_Plain (untab l) = some (plainS (untab l)) := if_pos (by rw [untab_len]; omega)
    have hb := plainF_le ⟨(untab l).toArray⟩ (untab l).length 0
    have hsz2 : (⟨(untab l).toArray⟩ : ByteArray).size = l.length := (Eng.str_size (untab l)).trans (untab_len l)
    rw [hsz2] at hb
    have hw : IntKind.wrap .i64 ((plainS (untab l)).1 + 1) = (plainS (untab l)).1 + 1 := by
      unfold plainS
      rw [wrap64 (by omega) (by omega)]
    simp only [h', decide_false, cond_false, hr, Option.bind_some, hp, hw, hln]
    cases hq : (plainS (untab l)).2 with
    | true => rfl
    | false =>
      simp only [Bool.not_false, cond_true]
      rw [wrong_eq _ _ _ _ (by decide)]
      rfl
theorem condD (p1 p2 p3 a : Bool) (x : LxT) (hx : p3 = false → a = true) : (bif !p1 then bif !p2 then bif p3 then some (!a, x) else some (false, x) else some (true, x) else some (true, x)) = some (p1 || p2 || (p3 && !a), x) := by
  cases p1 <;> cases p2 <;> cases p3 <;> rfl
theorem trim_eq (l : Bs) (hl : l.length ≤ 65536) : strings_Trim l [32, 9] = some (Lib.trimS l [32, 9]) := if_pos ⟨by omega, by decide, by decide⟩
theorem directive_eq {x : Lx} {n : Nat} (h : x.Ok n) (l : Bs) (hl : l.length ≤ 65536) (hd0 : l ≠ []) (hn : n ≤ 90000000) : ResK (mark_lexer__directive x.t l) (dirS x l) (n + 2) := by
  have hpos := List.length_pos_iff.2 hd0
  have hk := lets_le (l.drop 1)
  rw [List.length_drop] at hk
  unfold mark_lexer__directive dirS
  have hs1 : sub l (1 : Int) ((l.length : Nat) : Int) = some (l.drop 1) := sub_end (a := 1) (by omega)
  rw [hs1]
  simp only [Option.bind_some]
  rw [name_eq _ (by rw [List.length_drop]; omega)]
  simp only [Option.bind_some]
  generalize lets (l.drop 1) = k at *
  have hw : IntKind.wrap .i64 ((1 : Int) + (k : Int)) = ((1 + k : Nat) : Int) := by rw [wrap64 (by omega) (by omega)]; omega
  have hw2 : IntKind.wrap .i64 ((1 : Int) + min (k : Int) 12) = ((1 + min k 12 : Nat) : Int) := by rw [wrap64 (by omega) (by omega)]; omega
  have hs2 : sub l ((1 + k : Nat) : Int) ((l.length : Nat) : Int) = some (l.drop (1 + k)) := sub_end (by omega)
  have hs3 : sub l (1 : Int) ((1 + k : Nat) : Int) = some ((l.drop 1).take k) := sub_len (a := 1) (by omega)
  have hs4 : sub l (1 : Int) ((1 + min k 12 : Nat) : Int) = some ((l.drop 1).take (min k 12)) := sub_len (a := 1) (by omega)
  have k0 : decide (((k : Nat) : Int) = 0) = (k == 0) := by
    by_cases h : k = 0
    · subst h; rfl
    · have : ¬ ((k : Nat) : Int) = 0 := by omega
      simp [this, h]
  have k12 : decide ((12 : Int) < ((k : Nat) : Int)) = decide (12 < k) := by
    by_cases h : 12 < k
    · have : (12 : Int) < ((k : Nat) : Int) := by omega
      simp [this, h]
    · have : ¬ (12 : Int) < ((k : Nat) : Int) := by omega
      simp [this, h]
  rw [hw, hw2, hs2]
  simp only [Option.bind_some, k0, k12]
  have hE : (bif !(k == 0) then bif !(decide (12 < k)) then bif (decide ((l.drop (1 + k) : List (UInt8)) ≠ ([] : List (UInt8)))) then ((Go.Lf.idx (l.drop (1 + k)) (0 : Int))).bind fun r4 =>
   ((Go.Fn.mark_blanked (((UInt8.toNat r4) : Nat) : Int))).bind fun r5 =>
   some ((!r5), x.t)
   else some (false, x.t)
   else some (true, x.t)
   else some (true, x.t)) = some (endB' k (l.drop (1 + k)), x.t) := by
    unfold endB'
    cases hd : l.drop (1 + k) with
    | nil => cases k == 0 <;> cases decide (12 < k) <;> rfl
    | cons d r =>
      have hg : idx (d :: r) (0 : Int) = some d := idx_nat (d :: r) 0
      simp only [hg, Option.bind_some, blanked_eq]
      cases k == 0 <;> cases decide (12 < k) <;> simp
  rw [hE]
  simp only [Option.bind_some]
  have hln : x.t.2.2.2.2.2.2.1 = ((x.line : Nat) : Int) := rfl
  cases he : endB' k (l.drop (1 + k)) with
  | true =>
    simp only [cond_true, hs4, Option.bind_some, hln]
    rw [wrong_eq _ _ _ _ (by decide)]
    exact ⟨x.t, rfl⟩
  | false =>
    have hq := end_eq h (by omega)
    simp only [cond_false, Bool.false_eq_true, if_false]
    cases hend : endS x with
    | error w =>
      rw [hend] at hq
      obtain ⟨t, ht⟩ := hq
      rw [ht]
      simp only [Option.bind_some, Wr.e, Option.isSome_some, cond_true]
      exact ⟨t, rfl⟩
    | ok y =>
      rw [hend] at hq
      have hq : mark_lexer__end x.t = some (none, y.t) := hq
      have hy := end_ok (m := n + 1) h (Nat.le_refl _) hend
      have ho := hy.out
      have e1 : y.t.1 = y.out := rfl
      have e2 : y.t.2.2.2.2.2.2.1 = ((y.line : Nat) : Int) := rfl
      have htr := trim_eq (l.drop (1 + k)) (by rw [List.length_drop]; omega)
      have ha : app 56 y.out [((1 : Int), (l.drop 1).take k, Lib.trimS (l.drop (1 + k)) [32, 9], ((y.line : Nat) : Int), (1 : Int), ())] = some (y.out ++ [((1 : Int), (l.drop 1).take k, Lib.trimS (l.drop (1 + k)) [32, 9], ((y.line : Nat) : Int), (1 : Int), ())]) := app_of (by simp; omega)
      rw [hq]
      simp only [Option.bind_some, Option.isSome_none, cond_false, hs3, htr, e1, e2, ha]
      refine ⟨rfl, ?_, hy.opn, (hy.mono (by omega)).run, hy.bl⟩
      simp; omega
theorem take_eq {x : Lx} {n : Nat} (h : x.Ok n) (l : Bs) (hl : l.length ≤ 65536) (hn : n ≤ 90000000) : ResK (mark_lexer__take x.t l) (takeS x l) (n + 8 * l.length + 2) := by
  have hc := check_eq x l hl
  unfold mark_lexer__take takeS
  cases hck : chkS x.line l with
  | some w =>
    rw [hck] at hc
    have hc : mark_lexer__check x.t l = some (w.e, x.t) := hc
    rw [hc]
    simp only [Option.bind_some, Wr.e, Option.isSome_some, cond_true]
    exact ⟨x.t, rfl⟩
  | none =>
    rw [hck] at hc
    have hc : mark_lexer__check x.t l = some (none, x.t) := hc
    have hp : strings_HasPrefix l [35] = some (Lib.hasPrefix l [35]) := if_pos trivial
    rw [hc]
    simp only [Option.bind_some, Option.isSome_none, cond_false, hp]
    cases hpp : Lib.hasPrefix l [35] with
    | true => exact ⟨rfl, h.mono (by omega)⟩
    | false =>
      simp only [cond_false, trim_eq l hl, Option.bind_some, Bool.false_eq_true, if_false]
      by_cases ht : Lib.trimS l [32, 9] = []
      · have hq := end_eq h (by omega)
        simp only [ht, decide_true, cond_true, if_true]
        cases hend : endS x with
        | error w =>
          rw [hend] at hq
          obtain ⟨t, ht⟩ := hq
          rw [ht]
          simp only [Option.bind_some, Wr.e, Option.isSome_some, cond_true]
          exact ⟨t, rfl⟩
        | ok y =>
          rw [hend] at hq
          have hq : mark_lexer__end x.t = some (none, y.t) := hq
          have hy := end_ok (m := n + 1) h (Nat.le_refl _) hend
          have ho := hy.out
          have e1 : y.t.1 = y.out := rfl
          have e2 : y.t.2.2.2.2.2.2.1 = ((y.line : Nat) : Int) := rfl
          have ha : app 56 y.out [((2 : Int), ([] : Bs), ([] : Bs), ((y.line : Nat) : Int), (1 : Int), ())] = some (y.out ++ [((2 : Int), ([] : Bs), ([] : Bs), ((y.line : Nat) : Int), (1 : Int), ())]) := app_of (by simp; omega)
          rw [hq]
          simp only [Option.bind_some, Option.isSome_none, cond_false, e1, e2, ha]
          refine ⟨rfl, ?_, hy.opn, (hy.mono (by omega)).run, hy.bl⟩
          simp; omega
      · have hne : l ≠ [] := fun e => ht (by rw [e]; rfl)
        obtain ⟨b, r, rfl⟩ := List.exists_cons_of_ne_nil hne
        have hg : idx (b :: r) (0 : Int) = some b := idx_nat (b :: r) 0
        have c1 : decide (((b.toNat : Nat) : Int) = 46) = (b == 46) := nat8 _ 46
        simp only [ht, decide_false, cond_false, if_false, hg, Option.bind_some, c1, List.head?_cons, Option.some.injEq]
        by_cases hb : b = 46
        · have hD := directive_eq h (b :: r) hl hne hn
          simp only [hb, beq_self_eq_true, cond_true, if_true] at hD ⊢
          cases hdir : dirS x (46 :: r) with
          | error w =>
            rw [hdir] at hD
            obtain ⟨t, e⟩ := hD
            rw [e]; exact ⟨t, rfl⟩
          | ok y =>
            rw [hdir] at hD
            obtain ⟨e, ho⟩ := hD
            rw [e]; exact ⟨rfl, ho.mono (by omega)⟩
        · have hD := text_eq h (b :: r) (by omega) hn
          have hb' : (b == 46) = false := by simpa using hb
          simp only [hb', hb, cond_false, if_false]
          cases hdir : textS 0 (beginS x) 1 (b :: r) with
          | error w =>
            rw [hdir] at hD
            obtain ⟨t, e⟩ := hD
            rw [e]; exact ⟨t, rfl⟩
          | ok y =>
            rw [hdir] at hD
            obtain ⟨e, ho⟩ := hD
            rw [e]; exact ⟨rfl, ho.mono (by omega)⟩
end Go.Fn
/- Chapter 4, plainly: a source. -/
namespace Go.Fn
open Go Go.Lf
/-- a source's lines, with their returns -/
def linesA (cur : Bs) : Bs → List Bs
  | [] => if cur = [] then [] else [cur]
  | b :: r => if b = 10 then cur :: linesA [] r else linesA (cur ++ [b]) r
theorem linesA_cut : ∀ (a cur r : Bs), 10 ∉ a → linesA cur (a ++ 10 :: r) = (cur ++ a) :: linesA [] r
  | [], cur, r, _ => by simp [linesA]
  | b :: a, cur, r, h => by
    have hb : b ≠ 10 := fun e => h (by simp [e])
    rw [List.cons_append, linesA, if_neg hb, linesA_cut a (cur ++ [b]) r (fun e => h (by simp [e]))]
    simp
theorem linesA_end : ∀ (a cur : Bs), 10 ∉ a → linesA cur a = if cur ++ a = [] then [] else [cur ++ a]
  | [], cur, _ => by simp [linesA]
  | b :: a, cur, h => by
    have hb : b ≠ 10 := fun e => h (by simp [e])
    rw [linesA, if_neg hb, linesA_end a (cur ++ [b]) (fun e => h (by simp [e]))]
    simp
def crS (l : Bs) : Bs := Lib.trimSuffix l [13]
def nextL (x : Lx) : Lx := { x with line := x.line + 1 }
def linesK : Lx → List Bs → Except Wr Lx
  | x, [] => .ok x
  | x, l :: r => match takeS (nextL x) (crS l) with
    | .error w => .error w
    | .ok y => linesK y r
def lx0 : Lx := ⟨[], [], false, none, none, false, 0⟩
def lexS (s : Bs) : Except Wr (List Tok) :=
  if 65536 < s.length then .error ⟨2, 0, 0, []⟩ else match linesK lx0 (linesA [] s) with
    | .error w => .error w
    | .ok y => match endS y with
      | .error w => .error w
      | .ok z => .ok z.out
theorem cr_len (l : Bs) : (crS l).length ≤ l.length := Lib.trimSuffix_le l [13]
theorem dir_line {x y : Lx} {l : Bs} (h : dirS x l = .ok y) : y.line = x.line := by
  unfold dirS at h
  split at h
  · cases h
  · unfold endS at h
    split at h
    · cases h
    · rename_i z hz
      split at hz
      · cases hz; cases h; rfl
      · split at hz
        · cases hz
        · cases hz; cases h; rfl
theorem step_line {x y : Lx} {c k : Nat} {b : UInt8} {r : Bs} (h : stepS x c b r = .ok (k, y)) : y.line = x.line := by
  unfold stepS at h
  repeat' split at h
  all_goals first | (cases h; done) | skip
  all_goals (cases h)
  all_goals first | rfl | (unfold waitS; split <;> rfl) | exact settle_line x | exact tok_line x _ _ _
theorem wait_line (x : Lx) (c : Int) : (waitS x c).line = x.line := by unfold waitS; split <;> rfl
theorem text_line : ∀ (k : Nat) (x y : Lx) (c : Nat) (l : Bs), textS k x c l = .ok y → y.line = x.line
  | 0, x, y, c, [], h => by cases h; exact wait_line x _
  | k + 1, x, y, c, [], h => by cases h; exact wait_line x _
  | k + 1, x, y, c, _ :: r, h => text_line k x y (c + 1) r h
  | 0, x, y, c, b :: r, h => by
    rw [textS] at h
    cases hs : stepS x c b r with
    | error w => rw [hs] at h; cases h
    | ok p =>
      rw [hs] at h
      exact (text_line p.1 p.2 y (c + 1) r h).trans (step_line hs)
theorem end_line {x y : Lx} (h : endS x = .ok y) : y.line = x.line := by
  unfold endS at h
  split at h
  · cases h; rfl
  · split at h
    · cases h
    · cases h; rfl
theorem take_line {x y : Lx} {l : Bs} (h : takeS x l = .ok y) : y.line = x.line := by
  unfold takeS at h
  split at h
  · cases h
  · split at h
    · cases h; rfl
    · split at h
      · split at h
        · cases h
        · rename_i z hz; cases h; show z.line = x.line; exact end_line hz
      · split at h
        · exact dir_line h
        · have := text_line _ _ _ _ _ h
          rw [this]
          unfold beginS; split <;> rfl
/-- where a source is cut -/
theorem cut_eq (s : Bs) : (Lib.cut s [10] = (s, [], false) ∧ 10 ∉ s) ∨ (∃ a r, s = a ++ 10 :: r ∧ 10 ∉ a ∧ Lib.cut s [10] = (a, r, true)) := by
  unfold Lib.cut
  rw [Lib.index_one]
  by_cases h : Lib.indexByte s 10 = -1
  · refine .inl ⟨by rw [h]; rfl, ?_⟩
    intro hm
    obtain ⟨j, hj, he⟩ := List.mem_iff_getElem.1 hm
    exact Lib.indexByte_none h j (by rw [List.getElem?_eq_getElem hj, he])
  · have hge := Lib.indexByte_ge s 10
    obtain ⟨i, hi⟩ : ∃ i : Nat, Lib.indexByte s 10 = i := ⟨(Lib.indexByte s 10).toNat, by omega⟩
    obtain ⟨h1, h2⟩ := Lib.indexByte_some hi
    have hlt := (List.getElem?_eq_some_iff.1 h1).1
    have hget := (List.getElem?_eq_some_iff.1 h1).2
    refine .inr ⟨s.take i, s.drop (i + 1), ?_, ?_, ?_⟩
    · have := List.take_append_drop i s
      rw [List.drop_eq_getElem_cons hlt, hget] at this
      exact this.symm
    · intro hm
      obtain ⟨j, hj, he⟩ := List.mem_iff_getElem.1 hm
      rw [List.length_take] at hj
      rw [List.getElem_take] at he
      exact h2 j (by omega) (by rw [List.getElem?_eq_getElem (by omega), he])
    · rw [hi, if_pos (by omega)]
      simp
theorem lex_loop (B : Bs × LxT → Option ((Bs × LxT) ⊕ (LxT ⊕ (List Tok × ErrT)))) (hB : ∀ z2, B z2 = (bif (decide ((0 : Int) < (((List.length z2.1) : Nat) : Int))) then ((Go.Fn.strings_Cut z2.1 ((10 : UInt8) :: ([] : List (UInt8))))).bind fun r3 =>
     ((bif (!r3.2.2) then some ((decide ((r3.2.1 : List (UInt8)) = ([] : List (UInt8)))), (z2.2.1, (z2.2.2.1, (z2.2.2.2.1, (z2.2.2.2.2.1, (z2.2.2.2.2.2.1, (z2.2.2.2.2.2.2.1, ((Go.IntKind.wrap .i64 (z2.2.2.2.2.2.2.2.1 + (1 : Int))), z2.2.2.2.2.2.2.2.2))))))))
         else some (true, (z2.2.1, (z2.2.2.1, (z2.2.2.2.1, (z2.2.2.2.2.1, (z2.2.2.2.2.2.1, (z2.2.2.2.2.2.2.1, ((Go.IntKind.wrap .i64 (z2.2.2.2.2.2.2.2.1 + (1 : Int))), z2.2.2.2.2.2.2.2.2))))))))).bind fun r4 =>
       bif r4.1 then ((Go.Fn.strings_TrimSuffix r3.1 ((13 : UInt8) :: ([] : List (UInt8))))).bind fun r5 =>
       some (r5, r4.2)
       else some (r3.1, r4.2)).bind fun r6 =>
     ((Go.Fn.mark_lexer__take r6.2 r6.1)).bind fun r7 =>
     bif (Option.isSome r7.1) then some (.inr (.inr (([] : List Tok), r7.1)))
     else some (.inl (r3.2.1, r7.2))
     else some (.inr (.inl z2.2)))) : ∀ (m n : Nat) (s : Bs) (x : Lx), s.length ≤ m → s.length ≤ 65536 → x.Ok n → x.line + s.length ≤ 65536 → n + 10 * s.length ≤ 80000000 →
     (∃ w, loopC B (s, x.t) = some (.inr ([], Wr.e w)) ∧ linesK x (linesA [] s) = .error w) ∨
     (∃ y : Lx, loopC B (s, x.t) = some (.inl y.t) ∧ linesK x (linesA [] s) = .ok y ∧ y.Ok (n + 10 * s.length))
  | m, n, [], x, hm, hs, h, hl, hn => by
    refine .inr ⟨x, ?_, rfl, h.mono (by omega)⟩
    rw [loopC_step, hB]
    rfl
  | 0, n, b :: r, x, hm, hs, h, hl, hn => by simp at hm
  | m + 1, n, b :: r0, x, hm, hs, h, hl, hn => by
    have hcond : (0 : Int) < (((b :: r0).length : Nat) : Int) := by simp
    have hne : b :: r0 ≠ [] := by simp
    generalize hse : b :: r0 = s at *
    have hcut : strings_Cut s [10] = some (Lib.cut s [10]) := if_pos (by omega)
    have hxn : (nextL x).Ok n := ⟨h.out, h.opn, h.run, h.bl⟩
    have hw : IntKind.wrap .i64 (((x.line : Nat) : Int) + 1) = ((x.line + 1 : Nat) : Int) := wrapS (by omega)
    have hpos := List.length_pos_iff.2 hne
    have hT : ∀ l : Bs, l.length ≤ 65536 → strings_TrimSuffix l [13] = some (crS l) := fun l hl => if_pos (by omega)
    have e1 : x.t.2.2.2.2.2.2.1 = ((x.line : Nat) : Int) := rfl
    rcases cut_eq s with ⟨hc, h10⟩ | ⟨a, r, hsa, h10, hc⟩
    · have hla : linesA [] s = [s] := by rw [linesA_end s [] h10, if_neg (by simpa using hne)]; rfl
      have hB1 : B (s, x.t) = (mark_lexer__take (nextL x).t (crS s)).bind fun r7 => bif (Option.isSome r7.1) then some (.inr (.inr (([] : List Tok), r7.1))) else some (.inl (([] : Bs), r7.2)) := by
        rw [hB]
        simp only [hcond, decide_true, cond_true, hcut, hc, Option.bind_some, Bool.not_false, hT s hs, e1, hw]
        rfl
      have hk := take_eq hxn (crS s) (Nat.le_trans (cr_len s) hs) (by omega)
      have hcl := cr_len s
      rw [hla, linesK]
      cases ht : takeS (nextL x) (crS s) with
      | error w =>
        rw [ht] at hk
        obtain ⟨t, e⟩ := hk
        refine .inl ⟨w, ?_, rfl⟩
        rw [loopC_step, hB1, e]
        rfl
      | ok y =>
        rw [ht] at hk
        obtain ⟨e, ho⟩ := hk
        refine .inr ⟨y, ?_, rfl, ho.mono (by omega)⟩
        rw [loopC_step, hB1, e]
        simp only [Option.bind_some, Option.isSome_none, cond_false]
        show loopC B ([], y.t) = _
        rw [loopC_step, hB]
        rfl
    · have hla : linesA [] s = a :: linesA [] r := by rw [hsa, linesA_cut a [] r h10]; rfl
      have hln : s.length = a.length + 1 + r.length := by rw [hsa]; simp; omega
      have hB1 : B (s, x.t) = (mark_lexer__take (nextL x).t (crS a)).bind fun r7 => bif (Option.isSome r7.1) then some (.inr (.inr (([] : List Tok), r7.1))) else some (.inl (r, r7.2)) := by
        rw [hB]
        simp only [hcond, decide_true, cond_true, hcut, hc, Option.bind_some, Bool.not_true, cond_false, hT a (by omega), e1, hw]
        rfl
      have hcl := cr_len a
      have hk := take_eq hxn (crS a) (by omega) (by omega)
      rw [hla, linesK]
      cases ht : takeS (nextL x) (crS a) with
      | error w =>
        rw [ht] at hk
        obtain ⟨t, e⟩ := hk
        refine .inl ⟨w, ?_, rfl⟩
        rw [loopC_step, hB1, e]
        rfl
      | ok y =>
        rw [ht] at hk
        obtain ⟨e, ho⟩ := hk
        have hyl := take_line ht
        have hyl : y.line = x.line + 1 := hyl
        have hs1 : loopC B (s, x.t) = loopC B (r, y.t) := by
          rw [loopC_step, hB1, e]
          rfl
        rw [hs1]
        have ih := lex_loop B hB m (n + 8 * (crS a).length + 2) r y (by omega) (by omega) ho (by omega) (by omega)
        rcases ih with ⟨w, q1, q2⟩ | ⟨z, q1, q2, q3⟩
        · exact .inl ⟨w, q1, q2⟩
        · exact .inr ⟨z, q1, q2, q3.mono (by omega)⟩
theorem lx0_ok : lx0.Ok 0 := ⟨Nat.le_refl _, by decide, fun r hr => (by cases hr), fun r hr => by cases hr⟩
def lexR : Except Wr (List Tok) → List Tok × ErrT
  | .ok t => (t, none)
  | .error w => ([], w.e)
theorem lex_eq (s : Bs) : mark_Lex s = some (lexR (lexS s)) := by
  unfold mark_Lex lexS
  by_cases h : 65536 < s.length
  · have h' : (65536 : Int) < ((s.length : Nat) : Int) := by omega
    rw [if_pos h]
    simp only [h', decide_true, cond_true]
    rw [wrong_eq _ _ _ _ (by decide)]
    rfl
  · have h' : ¬ (65536 : Int) < ((s.length : Nat) : Int) := by omega
    rw [if_neg h]
    simp only [h', decide_false, cond_false]
    have hL := lex_loop _ (fun _ => rfl) s.length 0 s lx0 (Nat.le_refl _) (by omega) lx0_ok (by show 0 + s.length ≤ _; omega) (by omega)
    rcases hL with ⟨w, q1, q2⟩ | ⟨y, q1, q2, q3⟩
    · have q1 : loopC _ (s, (([] : List Tok), (([] : List Brc), ((0 : Int), (((0 : Int), (([] : Bs), (([] : Bs), ((0 : Int), ((0 : Int), ()))))), (((0 : Int), ((0 : Int), ())), ((0 : Int), ((0 : Int), ())))))))) = _ := q1
      rw [q1, q2]
      rfl
    · have q1 : loopC _ (s, (([] : List Tok), (([] : List Brc), ((0 : Int), (((0 : Int), (([] : Bs), (([] : Bs), ((0 : Int), ((0 : Int), ()))))), (((0 : Int), ((0 : Int), ())), ((0 : Int), ((0 : Int), ())))))))) = _ := q1
      have hq := end_eq q3 (by omega)
      rw [q1, q2]
      simp only [Option.bind_some, onSum]
      cases hend : endS y with
      | error w =>
        rw [hend] at hq
        obtain ⟨t, ht⟩ := hq
        rw [ht]
        rfl
      | ok z =>
        rw [hend] at hq
        have hq : mark_lexer__end y.t = some (none, z.t) := hq
        rw [hq]
        rfl
end Go.Fn
/- Chapter 4, plainly: where tokens stand. -/
namespace Go.Fn
open Go Go.Lf
def posT (t : Tok) : Int × Int := (t.2.2.2.1, t.2.2.2.2.1)
def runP : Option (Bs × Int × Int) → List (Int × Int)
  | none => []
  | some r => [r.2]
def posL (x : Lx) : List (Int × Int) := x.out.map posT ++ (runP x.run ++ x.bl.toList)
def ltP (p q : Int × Int) : Prop := p.1 < q.1 ∨ (p.1 = q.1 ∧ p.2 < q.2)
theorem ltP.trans {p q r : Int × Int} (h : ltP p q) (h' : ltP q r) : ltP p r := by
  unfold ltP at *
  omega
theorem settle_pos (x : Lx) : (posL (settleS x)).Sublist (posL x) := by
  obtain ⟨out, opn, ins, run, bl, fresh, line⟩ := x
  cases bl with
  | none => exact List.Sublist.refl _
  | some r =>
    cases run with
    | none => simp [posL, settleS, putS, runP]
    | some q => simp [posL, settleS, putS, runP]
theorem settle_bl (x : Lx) : (settleS x).bl = none := by
  unfold settleS
  split
  · assumption
  · rfl
theorem put_pos (x : Lx) (s : Bs) (l c : Int) (h : x.bl = none) : (posL (putS x s l c)).Sublist (posL x ++ [(l, c)]) := by
  obtain ⟨out, opn, ins, run, bl, fresh, line⟩ := x
  cases h
  cases run with
  | none => simp [posL, putS, runP]
  | some q => simp [posL, putS, runP]
theorem flush_pos (x : Lx) : posL (flushS x) = posL x := by
  obtain ⟨out, opn, ins, run, bl, fresh, line⟩ := x
  cases run with
  | none => rfl
  | some q => simp [posL, flushS, runP, posT, runT]
theorem tok_pos (x : Lx) (k : Int) (s : Bs) (c : Int) : (posL (tokS x k s c)).Sublist (posL x ++ [((x.line : Int), c)]) := by
  have h1 : posL (tokS x k s c) = posL (flushS (settleS x)) ++ [((x.line : Int), c)] := by
    have hb : (flushS (settleS x)).bl = none := settle_bl x
    have hr : (flushS (settleS x)).run = none := rfl
    unfold posL tokS
    simp only [hb, hr]
    simp [runP, posT]
  rw [h1, flush_pos]
  exact List.Sublist.append_right (settle_pos x) _
theorem wait_pos (x : Lx) (c : Int) : (posL (waitS x c)).Sublist (posL x ++ [((x.line : Int), c)]) := by
  unfold waitS
  split
  · rename_i h
    simp [posL, h.2]
  · exact List.sublist_append_left _ _
theorem settle_put_pos (x : Lx) (s : Bs) (c : Int) : (posL (putS (settleS x) s (x.line : Int) c)).Sublist (posL x ++ [((x.line : Int), c)]) :=
  (put_pos _ s _ c (settle_bl x)).trans (List.Sublist.append_right (settle_pos x) _)
theorem end_pos {x y : Lx} (h : endS x = .ok y) : (posL y).Sublist (posL x) := by
  unfold endS at h
  split at h
  · cases h; exact List.Sublist.refl _
  · split at h
    · cases h
    · cases h
      have := flush_pos x
      unfold posL at this ⊢
      have hr : (flushS x).run = none := rfl
      rw [hr] at this
      simp only [runP, List.nil_append] at this ⊢
      rw [← this]
      simp [hr, runP]
theorem step_pos {x y : Lx} {c k : Nat} {b : UInt8} {r : Bs} (h : stepS x c b r = .ok (k, y)) : (posL y).Sublist (posL x ++ [((x.line : Int), (c : Int))]) := by
  unfold stepS at h
  repeat' split at h
  all_goals first | (cases h; done) | skip
  all_goals (cases h)
  · exact wait_pos x _
  · exact settle_put_pos x _ _
  · exact tok_pos x _ _ _
  · exact tok_pos x _ _ _
  · exact tok_pos x _ _ _
  · exact settle_put_pos x _ _
theorem pos_next {x y : Lx} {q q' : Int × Int} (hs : (posL y).Sublist (posL x ++ [q])) (hq : ltP q q') (h : (posL x ++ [q]).Pairwise ltP) : (posL y ++ [q']).Pairwise ltP := by
  have h2 : ((posL x ++ [q]) ++ [q']).Pairwise ltP := by
    rw [List.pairwise_append]
    refine ⟨h, List.pairwise_singleton _ _, fun a ha b hb => ?_⟩
    simp only [List.mem_singleton] at hb
    subst hb
    rcases List.mem_append.1 ha with ha | ha
    · rw [List.pairwise_append] at h
      exact (h.2.2 a ha q (by simp)).trans hq
    · simp only [List.mem_singleton] at ha
      subst ha; exact hq
  exact h2.sublist (List.Sublist.append_right hs _)
theorem pos_le {x : Lx} {q q' : Int × Int} (hq : ltP q q' ∨ q = q') (h : (posL x ++ [q]).Pairwise ltP) : (posL x ++ [q']).Pairwise ltP := by
  rcases hq with hq | rfl
  · exact pos_next (List.sublist_append_left _ _) hq h
  · exact h
theorem text_pos : ∀ (k : Nat) (x y : Lx) (c : Nat) (l : Bs), textS k x c l = .ok y → (posL x ++ [((x.line : Int), (c : Int))]).Pairwise ltP →
    (posL y ++ [((x.line : Int), ((c + l.length + 1 : Nat) : Int))]).Pairwise ltP ∧ ∀ p ∈ posL y, p ∈ posL x ∨ (p.1 = (x.line : Int) ∧ (c : Int) ≤ p.2 ∧ p.2 ≤ ((c + l.length : Nat) : Int))
  | 0, x, y, c, [], h, hp => by
    cases h
    refine ⟨pos_next (wait_pos x _) (.inr ⟨rfl, by simp; omega⟩) hp, fun p hp' => ?_⟩
    rcases List.mem_append.1 ((wait_pos x _).subset hp') with h | h
    · exact .inl h
    · simp only [List.mem_singleton] at h
      subst h; exact .inr ⟨rfl, Int.le_refl _, by simp⟩
  | k + 1, x, y, c, [], h, hp => by
    cases h
    refine ⟨pos_next (wait_pos x _) (.inr ⟨rfl, by simp; omega⟩) hp, fun p hp' => ?_⟩
    rcases List.mem_append.1 ((wait_pos x _).subset hp') with h | h
    · exact .inl h
    · simp only [List.mem_singleton] at h
      subst h; exact .inr ⟨rfl, Int.le_refl _, by simp⟩
  | k + 1, x, y, c, b :: r, h, hp => by
    have hq : ltP ((x.line : Int), (c : Int)) ((x.line : Int), ((c + 1 : Nat) : Int)) := .inr ⟨rfl, by simp; omega⟩
    have ih := text_pos k x y (c + 1) r h (pos_le (.inl hq) hp)
    refine ⟨?_, fun p hp' => ?_⟩
    · have := ih.1
      rw [show c + 1 + r.length + 1 = c + (b :: r).length + 1 by simp; omega] at this
      exact this
    · rcases ih.2 p hp' with h | ⟨h1, h2, h3⟩
      · exact .inl h
      · exact .inr ⟨h1, by omega, by simp at h3 ⊢; omega⟩
  | 0, x, y, c, b :: r, h, hp => by
    rw [textS] at h
    cases hs : stepS x c b r with
    | error w => rw [hs] at h; cases h
    | ok p =>
      rw [hs] at h
      obtain ⟨k, z⟩ := p
      have hl := step_line hs
      have hsub := step_pos hs
      have ih := text_pos k z y (c + 1) r h (by rw [hl]; exact pos_next hsub (.inr ⟨rfl, by simp; omega⟩) hp)
      rw [hl] at ih
      refine ⟨?_, fun p hp' => ?_⟩
      · have := ih.1
        rw [show c + 1 + r.length + 1 = c + (b :: r).length + 1 by simp; omega] at this
        exact this
      · rcases ih.2 p hp' with h | ⟨h1, h2, h3⟩
        · rcases List.mem_append.1 (hsub.subset h) with h | h
          · exact .inl h
          · simp only [List.mem_singleton] at h
            subst h; exact .inr ⟨rfl, Int.le_refl _, by simp; omega⟩
        · exact .inr ⟨h1, by omega, by simp at h3 ⊢; omega⟩
theorem begin_pos (x : Lx) : posL (beginS x) = posL x := by unfold beginS; split <;> rfl
theorem begin_line (x : Lx) : (beginS x).line = x.line := by unfold beginS; split <;> rfl
/-- between paragraphs nothing is open -/
def Idle (x : Lx) : Prop := x.ins = false → x.opn = [] ∧ x.run = none ∧ x.bl = none
theorem end_idle {x y : Lx} (hi : Idle x) (h : endS x = .ok y) : y.ins = false ∧ y.opn = [] ∧ y.run = none ∧ y.bl = none := by
  unfold endS at h
  split at h
  · rename_i hf; cases h; exact ⟨hf, hi hf⟩
  · split at h
    · cases h
    · rename_i hn
      rw [List.getLast?_eq_none_iff] at hn
      cases h
      exact ⟨rfl, hn, rfl, rfl⟩
theorem wait_ins (x : Lx) (c : Int) : (waitS x c).ins = x.ins := by unfold waitS; split <;> rfl
theorem step_ins {x y : Lx} {c k : Nat} {b : UInt8} {r : Bs} (h : stepS x c b r = .ok (k, y)) : y.ins = x.ins := by
  unfold stepS at h
  repeat' split at h
  all_goals first | (cases h; done) | skip
  all_goals (cases h)
  all_goals first | rfl | exact wait_ins x _ | exact settle_ins x
theorem text_ins : ∀ (k : Nat) (x y : Lx) (c : Nat) (l : Bs), textS k x c l = .ok y → y.ins = x.ins
  | 0, x, y, c, [], h => by cases h; exact wait_ins x _
  | k + 1, x, y, c, [], h => by cases h; exact wait_ins x _
  | k + 1, x, y, c, _ :: r, h => text_ins k x y (c + 1) r h
  | 0, x, y, c, b :: r, h => by
    rw [textS] at h
    cases hs : stepS x c b r with
    | error w => rw [hs] at h; cases h
    | ok p =>
      rw [hs] at h
      exact (text_ins p.1 p.2 y (c + 1) r h).trans (step_ins hs)
theorem begin_ins (x : Lx) : (beginS x).ins = true := by
  unfold beginS
  split
  · rfl
  · rename_i h; simpa using h
/-- the ways of a line -/
theorem take_cases {x y : Lx} {l : Bs} (h : takeS x l = .ok y) : chkS x.line l = none ∧
    ((Lib.hasPrefix l [35] = true ∧ y = x) ∨
     (∃ z t, Lib.hasPrefix l [35] = false ∧ endS x = .ok z ∧ y = { z with out := z.out ++ [t] } ∧ posT t = ((z.line : Int), 1) ∧
       ((Lib.trimS l [32, 9] = [] ∧ t = (2, [], [], (z.line : Int), 1, ())) ∨ (Lib.trimS l [32, 9] ≠ [] ∧ l.head? = some 46 ∧ dirS x l = .ok y ∧ t = (1, (l.drop 1).take (lets (l.drop 1)), Lib.trimS (l.drop (1 + lets (l.drop 1))) [32, 9], (z.line : Int), 1, ())))) ∨
     (Lib.hasPrefix l [35] = false ∧ Lib.trimS l [32, 9] ≠ [] ∧ l.head? ≠ some 46 ∧ textS 0 (beginS x) 1 l = .ok y)) := by
  unfold takeS at h
  split at h
  · cases h
  · rename_i hc
    refine ⟨hc, ?_⟩
    split at h
    · rename_i hp; cases h; exact .inl ⟨hp, rfl⟩
    · rename_i hp
      have hp : Lib.hasPrefix l [35] = false := by simpa using hp
      split at h
      · rename_i ht
        split at h
        · cases h
        · rename_i z hz
          cases h
          exact .inr (.inl ⟨z, _, hp, hz, rfl, rfl, .inl ⟨ht, rfl⟩⟩)
      · rename_i ht
        split at h
        · rename_i h46
          have hd := h
          unfold dirS at h
          split at h
          · cases h
          · split at h
            · cases h
            · rename_i z hz
              cases h
              exact .inr (.inl ⟨z, _, hp, hz, rfl, rfl, .inr ⟨ht, h46, hd, rfl⟩⟩)
        · rename_i h46
          exact .inr (.inr ⟨hp, ht, h46, h⟩)
theorem take_idle {x y : Lx} {l : Bs} (hi : Idle x) (h : takeS x l = .ok y) : Idle y := by
  obtain ⟨_, h⟩ := take_cases h
  rcases h with ⟨_, rfl⟩ | ⟨z, t, _, hz, rfl, _⟩ | ⟨_, _, _, ht⟩
  · exact hi
  · exact fun _ => (end_idle hi hz).2
  · intro hf
    have := text_ins _ _ _ _ _ ht
    rw [hf, begin_ins] at this
    cases this
theorem take_pos {x y : Lx} {l : Bs} (hi : Idle x) (h : takeS x l = .ok y) (hp : (posL x ++ [((x.line : Int), (1 : Int))]).Pairwise ltP) :
    (posL y ++ [(((x.line + 1 : Nat) : Int), (1 : Int))]).Pairwise ltP ∧ ∀ p ∈ posL y, p ∈ posL x ∨ (p.1 = (x.line : Int) ∧ 1 ≤ p.2 ∧ p.2 ≤ ((l.length + 1 : Nat) : Int)) := by
  obtain ⟨_, h⟩ := take_cases h
  rcases h with ⟨_, rfl⟩ | ⟨z, t, _, hz, rfl, ht, _⟩ | ⟨_, _, _, ht⟩
  · exact ⟨pos_le (.inl (.inl (by simp; omega))) hp, fun p hp => .inl hp⟩
  · have hl := end_line hz
    obtain ⟨_, _, e1, e2⟩ := end_idle hi hz
    have e : posL { z with out := z.out ++ [t] } = posL z ++ [((x.line : Int), (1 : Int))] := by
      unfold posL
      simp only [e1, e2, runP]
      simp [ht, hl]
    have hsub : (posL { z with out := z.out ++ [t] }).Sublist (posL x ++ [((x.line : Int), (1 : Int))]) := by
      rw [e]; exact List.Sublist.append_right (end_pos hz) _
    refine ⟨pos_next hsub (.inl (by simp; omega)) hp, fun p hp' => ?_⟩
    rcases List.mem_append.1 (hsub.subset hp') with h | h
    · exact .inl h
    · simp only [List.mem_singleton] at h
      subst h; exact .inr ⟨rfl, Int.le_refl _, by simp; omega⟩
  · have hb := begin_pos x
    have hl := begin_line x
    have := text_pos 0 (beginS x) y 1 l ht (by rw [hb, hl]; exact hp)
    rw [hb, hl] at this
    refine ⟨pos_le (.inl (.inl (by simp; omega))) this.1, fun p hp' => ?_⟩
    rcases this.2 p hp' with h | ⟨h1, h2, h3⟩
    · exact .inl h
    · exact .inr ⟨h1, by simpa using h2, by omega⟩
theorem lines_pos : ∀ (L : List Bs) (x y : Lx), Idle x → linesK x L = .ok y → (posL x ++ [(((x.line + 1 : Nat) : Int), (1 : Int))]).Pairwise ltP →
    Idle y ∧ y.line = x.line + L.length ∧ (posL y ++ [(((y.line + 1 : Nat) : Int), (1 : Int))]).Pairwise ltP ∧ ∀ p ∈ posL y, p ∈ posL x ∨ ∃ (j : Nat) (l : Bs), L[j]? = some l ∧ p.1 = ((x.line + j + 1 : Nat) : Int) ∧ 1 ≤ p.2 ∧ p.2 ≤ (((crS l).length + 1 : Nat) : Int)
  | [], x, y, hi, h, hp => by cases h; exact ⟨hi, by simp, hp, fun p hp => .inl hp⟩
  | l :: L, x, y, hi, h, hp => by
    rw [linesK] at h
    cases ht : takeS (nextL x) (crS l) with
    | error w => rw [ht] at h; cases h
    | ok z =>
      rw [ht] at h
      have hl : z.line = x.line + 1 := take_line ht
      have hin : Idle (nextL x) := hi
      obtain ⟨t1, t2⟩ := take_pos hin ht hp
      have t1 : (posL z ++ [(((x.line + 1 + 1 : Nat) : Int), (1 : Int))]).Pairwise ltP := t1
      obtain ⟨i1, i2, i3, i4⟩ := lines_pos L z y (take_idle hin ht) h (by rw [hl]; exact t1)
      refine ⟨i1, by simp; omega, i3, fun p hp' => ?_⟩
      rcases i4 p hp' with h | ⟨j, m, h1, h2, h3⟩
      · rcases t2 p h with h | ⟨h1, h2, h3⟩
        · exact .inl h
        · exact .inr ⟨0, l, rfl, h1, h2, h3⟩
      · exact .inr ⟨j + 1, m, h1, by rw [h2, hl]; congr 1; omega, h3⟩
/-- where the tokens of a source stand -/
theorem lex_pos {s : Bs} {t : List Tok} (h : lexS s = .ok t) : (t.map posT).Pairwise ltP ∧ ∀ p ∈ t.map posT, ∃ (j : Nat) (l : Bs), ((linesA [] s).map crS)[j]? = some l ∧ p.1 = ((j + 1 : Nat) : Int) ∧ 1 ≤ p.2 ∧ p.2 ≤ ((l.length + 1 : Nat) : Int) := by
  unfold lexS at h
  split at h
  · cases h
  · split at h
    · cases h
    · rename_i y hy
      split at h
      · cases h
      · rename_i z hz
        cases h
        have h0 : Idle lx0 := fun _ => ⟨rfl, rfl, rfl⟩
        obtain ⟨i1, i2, i3, i4⟩ := lines_pos _ _ _ h0 hy (by simp [posL, lx0, runP])
        obtain ⟨_, _, e1, e2⟩ := end_idle i1 hz
        have e : posL z = z.out.map posT := by unfold posL; rw [e1, e2]; simp [runP]
        have hs := end_pos hz
        rw [e] at hs
        rw [List.pairwise_append] at i3
        refine ⟨i3.1.sublist hs, fun p hp => ?_⟩
        rcases i4 p (hs.subset hp) with h | ⟨j, l, h1, h2, h3, h4⟩
        · simp [posL, lx0, runP] at h
        · exact ⟨j, crS l, by rw [List.getElem?_map, h1]; rfl, by rw [h2]; simp [lx0], h3, h4⟩
end Go.Fn
/- Chapter 4, plainly: plain texts; what is escaped, read again; a comment. -/
namespace Go.Fn
open Go Go.Lf
def goodL (l : Bs) : Bool := !(ctlB ((Lib.decodeL l).1 : Int)) && !(decide ((Lib.decodeL l).1 = 65533) && decide ((Lib.decodeL l).2 = 1))
inductive PlainP : Bs → Prop
  | nil : PlainP []
  | step {l : Bs} : l ≠ [] → goodL l = true → PlainP (l.drop (Lib.decodeL l).2) → PlainP l
theorem PlainP.inv {l : Bs} (h : PlainP l) : l = [] ∨ (l ≠ [] ∧ goodL l = true ∧ PlainP (l.drop (Lib.decodeL l).2)) := by
  cases h with
  | nil => exact .inl rfl
  | step h1 h2 h3 => exact .inr ⟨h1, h2, h3⟩
theorem drop_bytes (l : Bs) (p : Nat) : (⟨(l.drop p).toArray⟩ : ByteArray) = (⟨l.toArray⟩ : ByteArray).extract p (⟨l.toArray⟩ : ByteArray).size := by
  apply ByteArray.ext
  rw [ByteArray.data_extract]
  apply Array.ext'
  simp [ByteArray.size]
  exact (List.take_of_length_le (by simp)).symm
theorem decode_drop (l : Bs) (p : Nat) : Utf8.decode ⟨l.toArray⟩ p = Lib.decodeL (l.drop p) := by
  unfold Lib.decodeL
  rw [drop_bytes, Lib.tail_decode, Nat.add_zero]
theorem bad_drop (l : Bs) (p : Nat) (hp : p < l.length) : badB ⟨l.toArray⟩ p = (decide ((Lib.decodeL (l.drop p)).1 = 65533) && decide ((Lib.decodeL (l.drop p)).2 = 1)) := by
  unfold badB
  rw [← drop_bytes, decodeGo_L _ (by intro e; have := congrArg List.length e; simp at this; omega)]
  generalize Lib.decodeL (l.drop p) = z
  have e1 : decide (((z.1 : Nat) : Int) = 65533) = decide (z.1 = 65533) := by
    by_cases h : z.1 = 65533
    · simp [h]
    · have : ¬ ((z.1 : Nat) : Int) = 65533 := by omega
      simp [h, this]
  have e2 : (((z.2 : Nat) : Int) == 1) = decide (z.2 = 1) := by
    by_cases h : z.2 = 1
    · simp [h]
    · have : ¬ ((z.2 : Nat) : Int) = 1 := by omega
      simp [h, this]
  rw [e1, e2]
theorem good_drop (l : Bs) (p : Nat) (hp : p < l.length) : (ctlB ((Utf8.decode ⟨l.toArray⟩ p).1 : Int) || (decide (((Utf8.decode ⟨l.toArray⟩ p).1 : Int) = 65533) && badB ⟨l.toArray⟩ p)) = !(goodL (l.drop p)) := by
  rw [bad_drop l p hp, decode_drop]
  unfold goodL
  generalize Lib.decodeL (l.drop p) = z
  have e1 : decide (((z.1 : Nat) : Int) = 65533) = decide (z.1 = 65533) := by
    by_cases h : z.1 = 65533
    · simp [h]
    · have : ¬ ((z.1 : Nat) : Int) = 65533 := by omega
      simp [h, this]
  rw [e1]
  cases ctlB (z.1 : Int) <;> cases decide (z.1 = 65533) <;> cases decide (z.2 = 1) <;> rfl
theorem plainF_P (l : Bs) : ∀ (f p : Nat), l.length ≤ p + f → ((plainF ⟨l.toArray⟩ f p).2 = true ↔ PlainP (l.drop p))
  | 0, p, h => by
    rw [List.drop_eq_nil_of_le (by omega)]
    exact ⟨fun _ => .nil, fun _ => rfl⟩
  | f + 1, p, h => by
    have hsz : (⟨l.toArray⟩ : ByteArray).size = l.length := Eng.str_size l
    unfold plainF
    by_cases hp : p < l.length
    · rw [if_pos (by rw [hsz]; exact hp), good_drop l p hp, decode_drop]
      have hw := Lib.decodeL_width (l.drop p)
      have ih := plainF_P l f (p + (Lib.decodeL (l.drop p)).2) (by omega)
      have hne : l.drop p ≠ [] := by intro e; have := congrArg List.length e; simp at this; omega
      rw [← List.drop_drop] at ih
      cases hg : goodL (l.drop p) with
      | true =>
        simp only [Bool.not_true, Bool.false_eq_true, if_false]
        rw [ih]
        exact ⟨fun q => .step hne hg q, fun q => by
          rcases q.inv with h | h
          · exact absurd h hne
          · exact h.2.2⟩
      | false =>
        simp only [Bool.not_false, if_true, Bool.false_eq_true, false_iff]
        intro q
        rcases q.inv with h | h
        · exact absurd h hne
        · rw [hg] at h; cases h.2.1
    · rw [if_neg (by rw [hsz]; exact hp), List.drop_eq_nil_of_le (by omega)]
      exact ⟨fun _ => .nil, fun _ => rfl⟩
theorem plain_P (l : Bs) : (plainS l).2 = true ↔ PlainP l := by
  have := plainF_P l l.length 0 (by omega)
  exact this
theorem plain_cons (b : UInt8) (r : Bs) (hb : b.toNat < 128) (h1 : 32 ≤ b.toNat) (h2 : b.toNat ≠ 127) : PlainP (b :: r) ↔ PlainP r := by
  have hd := Lib.decodeL_ascii b r hb
  have hg : goodL (b :: r) = true := by
    unfold goodL ctlB
    rw [hd]
    have e1 : ¬ ((b.toNat : Nat) : Int) < 32 := by omega
    have e2 : ¬ ((127 : Int) ≤ ((b.toNat : Nat) : Int)) := by omega
    have e3 : ¬ b.toNat = 65533 := by omega
    simp [e1, e2, e3]
  constructor
  · intro h
    cases h with
    | step _ _ q => rw [hd] at q; exact q
  · intro h
    exact .step (by simp) hg (by rw [hd]; exact h)
/-- the first character of a plain text -/
theorem plain_shape {l : Bs} (hne : l ≠ []) (hg : goodL l = true) :
    (∃ b r, l = b :: r ∧ 32 ≤ b.toNat ∧ b.toNat < 127 ∧ (Lib.decodeL l).2 = 1) ∨
    (∃ u t, l = u ++ t ∧ u ≠ [] ∧ u.length = (Lib.decodeL l).2 ∧ (∀ b ∈ u, 128 ≤ b.toNat) ∧ ∀ t', goodL (u ++ t') = true ∧ (Lib.decodeL (u ++ t')).2 = u.length) := by
  obtain ⟨b, r, rfl⟩ := List.exists_cons_of_ne_nil hne
  rcases Lib.decodeN_shape (b :: r).length ((b :: r).getD 0 0).toNat ((b :: r).getD 1 0).toNat ((b :: r).getD 2 0).toNat ((b :: r).getD 3 0).toNat with ⟨c, e⟩ | ⟨c1, c2, c3, cv, e⟩ | ⟨c1, c2, c3, c4, cv, cs, e⟩ | ⟨c1, c2, c3, c4, c5, cv, cw, e⟩ | e
  · rw [← Lib.decodeL_N] at e
    left
    have c : b.toNat < 128 := c
    have e : Lib.decodeL (b :: r) = (b.toNat, 1) := e
    unfold goodL ctlB at hg
    rw [e] at hg
    simp only [Bool.and_eq_true, Bool.not_eq_true', Bool.or_eq_false_iff, decide_eq_false_iff_not, Bool.and_eq_false_iff] at hg
    refine ⟨b, r, rfl, by omega, ?_, by rw [e]⟩
    omega
  · rw [← Lib.decodeL_N] at e
    right
    obtain ⟨b1, t, rfl⟩ : ∃ b1 t, r = b1 :: t := List.exists_cons_of_ne_nil (by intro h; subst h; simp at c2)
    have d1 : b.toNat / 32 = 6 := c1
    have d3 : b1.toNat / 64 = 2 := c3
    have dv : 128 ≤ b.toNat % 32 * 64 + b1.toNat % 64 := cv
    refine ⟨[b, b1], t, rfl, by simp, by rw [e]; rfl, by simp; omega, fun t' => ?_⟩
    have e' : Lib.decodeL ([b, b1] ++ t') = Lib.decodeL (b :: b1 :: t) := by
      rw [e, Lib.decodeL_N]
      show Lib.decodeN (t'.length + 1 + 1) b.toNat b1.toNat _ _ = _
      unfold Lib.decodeN
      rw [if_neg (by omega), if_pos ⟨d1, by omega, d3⟩, if_pos dv]
      rfl
    refine ⟨?_, by rw [e', e]; rfl⟩
    unfold goodL at hg ⊢
    rw [e']; exact hg
  · rw [← Lib.decodeL_N] at e
    right
    obtain ⟨b1, t1, rfl⟩ : ∃ b1 t, r = b1 :: t := List.exists_cons_of_ne_nil (by intro h; subst h; simp at c2)
    obtain ⟨b2, t, rfl⟩ : ∃ b1 t, t1 = b1 :: t := List.exists_cons_of_ne_nil (by intro h; subst h; simp at c2)
    have d1 : b.toNat / 16 = 14 := c1
    have d3 : b1.toNat / 64 = 2 := c3
    have d4 : b2.toNat / 64 = 2 := c4
    have dv : 2048 ≤ b.toNat % 16 * 4096 + b1.toNat % 64 * 64 + b2.toNat % 64 := cv
    have ds : b.toNat % 16 * 4096 + b1.toNat % 64 * 64 + b2.toNat % 64 < 55296 ∨ 57344 ≤ b.toNat % 16 * 4096 + b1.toNat % 64 * 64 + b2.toNat % 64 := cs
    have m0 := Nat.mod_lt b.toNat (y := 16) (by decide)
    have m1 := Nat.mod_lt b1.toNat (y := 64) (by decide)
    have m2 := Nat.mod_lt b2.toNat (y := 64) (by decide)
    have du : b.toNat % 16 * 4096 + b1.toNat % 64 * 64 + b2.toNat % 64 < 55296 ∨ (57344 ≤ b.toNat % 16 * 4096 + b1.toNat % 64 * 64 + b2.toNat % 64 ∧ b.toNat % 16 * 4096 + b1.toNat % 64 * 64 + b2.toNat % 64 ≤ 1114111) := by
      rcases ds with h | h
      · exact .inl h
      · exact .inr ⟨h, by omega⟩
    refine ⟨[b, b1, b2], t, rfl, by simp, by rw [e]; rfl, by simp; omega, fun t' => ?_⟩
    have e' : Lib.decodeL ([b, b1, b2] ++ t') = Lib.decodeL (b :: b1 :: b2 :: t) := by
      rw [e, Lib.decodeL_N]
      show Lib.decodeN (t'.length + 1 + 1 + 1) b.toNat b1.toNat b2.toNat _ = _
      unfold Lib.decodeN
      rw [if_neg (by omega), if_neg (by omega), if_pos ⟨d1, ⟨by omega, d3⟩, by omega, d4⟩, if_pos ⟨dv, du⟩]
      rfl
    refine ⟨?_, by rw [e', e]; rfl⟩
    unfold goodL at hg ⊢
    rw [e']; exact hg
  · rw [← Lib.decodeL_N] at e
    right
    obtain ⟨b1, t1, rfl⟩ : ∃ b1 t, r = b1 :: t := List.exists_cons_of_ne_nil (by intro h; subst h; simp at c2)
    obtain ⟨b2, t2, rfl⟩ : ∃ b1 t, t1 = b1 :: t := List.exists_cons_of_ne_nil (by intro h; subst h; simp at c2)
    obtain ⟨b3, t, rfl⟩ : ∃ b1 t, t2 = b1 :: t := List.exists_cons_of_ne_nil (by intro h; subst h; simp at c2)
    have d1 : b.toNat / 8 = 30 := c1
    have d3 : b1.toNat / 64 = 2 := c3
    have d4 : b2.toNat / 64 = 2 := c4
    have d5 : b3.toNat / 64 = 2 := c5
    have dv : 65536 ≤ b.toNat % 8 * 262144 + b1.toNat % 64 * 4096 + b2.toNat % 64 * 64 + b3.toNat % 64 := cv
    have dw : b.toNat % 8 * 262144 + b1.toNat % 64 * 4096 + b2.toNat % 64 * 64 + b3.toNat % 64 ≤ 1114111 := cw
    refine ⟨[b, b1, b2, b3], t, rfl, by simp, by rw [e]; rfl, by simp; omega, fun t' => ?_⟩
    have e' : Lib.decodeL ([b, b1, b2, b3] ++ t') = Lib.decodeL (b :: b1 :: b2 :: b3 :: t) := by
      rw [e, Lib.decodeL_N]
      show Lib.decodeN (t'.length + 1 + 1 + 1 + 1) b.toNat b1.toNat b2.toNat b3.toNat = _
      unfold Lib.decodeN
      rw [if_neg (by omega), if_neg (by omega), if_neg (by omega), if_pos ⟨d1, ⟨by omega, d3⟩, ⟨by omega, d4⟩, by omega, d5⟩, if_pos ⟨dv, .inr ⟨Nat.le_trans (by omega : 57344 ≤ 65536) dv, dw⟩⟩]
      rfl
    refine ⟨?_, by rw [e', e]; rfl⟩
    unfold goodL at hg ⊢
    rw [e']; exact hg
  · rw [← Lib.decodeL_N] at e
    unfold goodL at hg
    rw [e] at hg
    simp at hg
/-- plain texts hold no signs of control -/
theorem plain_mem {l : Bs} (h : PlainP l) : ∀ b ∈ l, 32 ≤ b.toNat ∧ b.toNat ≠ 127 := by
  induction h with
  | nil => simp
  | step hne hg hp ih =>
    rcases plain_shape hne hg with ⟨b, r, rfl, h1, h2, h3⟩ | ⟨u, t, rfl, _, h2, h3, _⟩
    · rw [h3] at ih
      intro c hc
      rcases List.mem_cons.1 hc with rfl | hc
      · omega
      · exact ih c hc
    · rw [← h2, List.drop_left] at ih
      intro c hc
      rcases List.mem_append.1 hc with hc | hc
      · have := h3 c hc; omega
      · exact ih c hc
def escT : Bool → Bs → Bs
  | _, [] => []
  | f, b :: r => (if escB (if f then 0 else 1) b then [92, b] else [b]) ++ escT false r
theorem escT_N (s : Bs) : ∀ (m k : Nat), k + m = s.length → escN s k ++ escT (k == 0) (s.drop k) = escN s s.length
  | 0, k, h => by
    rw [List.drop_eq_nil_of_le (by omega), show k = s.length by omega]
    simp [escT]
  | m + 1, k, h => by
    have hk : k < s.length := by omega
    have ih := escT_N s m (k + 1) (by omega)
    rw [escN_succ, List.getElem?_eq_getElem hk] at ih
    rw [List.drop_eq_getElem_cons hk, escT, ← List.append_assoc]
    have e : escB (if (k == 0) = true then 0 else 1) s[k] = escB k s[k] := by
      cases k with
      | zero => rfl
      | succ k => simp [escB]
    rw [e]
    exact ih
theorem escape_T (s : Bs) (h : s.length ≤ 70368744177664) : mark_Escape s = some (escT true s) := by
  have h1 : mark_Escape s = some (escN s s.length) := if_pos h
  rw [h1, ← escT_N s s.length 0 (by omega)]
  rfl
theorem escT_len (f : Bool) (s : Bs) : (escT f s).length ≤ 2 * s.length := by
  induction s generalizing f with
  | nil => simp [escT]
  | cons b r ih =>
    have := ih false
    rw [escT, List.length_append, List.length_cons]
    generalize (if f = true then 0 else 1) = k
    split <;> simp <;> omega
theorem esc_ascii {k : Nat} {b : UInt8} (h : escB k b = true) : b = 92 ∨ b = 123 ∨ b = 125 ∨ b = 124 ∨ b = 46 ∨ b = 35 := by
  unfold escB at h
  simp only [Bool.or_eq_true, Bool.and_eq_true, beq_iff_eq] at h
  rcases h with (((h | h) | h) | h) | ⟨_, h | h⟩ <;> simp [h]
theorem escT_high : ∀ (u : Bs) (f : Bool) (t : Bs), (∀ b ∈ u, 128 ≤ b.toNat) → u ≠ [] → escT f (u ++ t) = u ++ escT false t
  | [], f, t, _, hne => absurd rfl hne
  | b :: u, f, t, h, _ => by
    have hb := h b (by simp)
    have he : ∀ k, escB k b = false := by
      intro k
      cases hh : escB k b with
      | false => rfl
      | true =>
        have := esc_ascii hh
        rcases this with rfl | rfl | rfl | rfl | rfl | rfl <;> exact absurd hb (by decide)
    rw [List.cons_append, escT, he]
    cases u with
    | nil => rfl
    | cons c u =>
      rw [escT_high (c :: u) false t (fun d hd => h d (by simp [hd])) (by simp)]
      rfl
theorem plain_esc {s : Bs} (h : PlainP s) : ∀ f, PlainP (escT f s) := by
  induction h with
  | nil => intro f; exact .nil
  | step hne hg hp ih =>
    intro f
    rcases plain_shape hne hg with ⟨b, r, rfl, h1, h2, h3⟩ | ⟨u, t, rfl, h1, h2, h3, h4⟩
    · rw [h3] at ih
      have ih : PlainP (escT false r) := ih false
      rw [escT]
      generalize (if f = true then 0 else 1) = k
      split
      · show PlainP (92 :: b :: escT false r)
        rw [plain_cons _ _ (by decide) (by decide) (by decide), plain_cons _ _ (by omega) h1 (by omega)]
        exact ih
      · show PlainP (b :: escT false r)
        rw [plain_cons _ _ (by omega) h1 (by omega)]
        exact ih
    · rw [← h2, List.drop_left] at ih
      rw [escT_high u f t h3 h1]
      obtain ⟨g1, g2⟩ := h4 (escT false t)
      refine .step (by simp [h1]) g1 ?_
      rw [g2, List.drop_left]
      exact ih false
theorem untab_id {l : Bs} (h : ∀ b ∈ l, 32 ≤ b.toNat) : untab l = l := by
  unfold untab
  conv => rhs; rw [← List.map_id l]
  refine List.map_congr_left fun b hb => ?_
  have : b ≠ 9 := fun e => by have := h b hb; rw [e] at this; exact absurd this (by decide)
  simp [this]
theorem chk_plain {l : Bs} (n : Nat) (h : PlainP l) (hl : l.length ≤ 4096) : chkS n l = none := by
  unfold chkS
  rw [if_neg (by omega), untab_id (fun b hb => (plain_mem h b hb).1), if_pos ((plain_P l).2 h)]
theorem crS_id {l : Bs} (h : l.getLast? ≠ some 13) : crS l = l := by
  unfold crS Lib.trimSuffix
  rw [if_neg]
  intro hs
  unfold Lib.hasSuffix at hs
  rw [List.isSuffixOf_iff_suffix] at hs
  obtain ⟨p, hp⟩ := hs
  exact h (by rw [← hp]; simp)
theorem plain_cr {l : Bs} (h : PlainP l) : crS l = l := crS_id fun e => by
  have := (plain_mem h 13 (List.mem_of_getLast? e)).1
  exact absurd this (by decide)
theorem plain_10 {l : Bs} (h : PlainP l) : 10 ∉ l := fun e => absurd (plain_mem h 10 e).1 (by decide)
theorem dropWhile_nil {α : Type} {p : α → Bool} : ∀ {l : List α}, l.dropWhile p = [] → ∀ a ∈ l, p a = true
  | [], _, a, h => by cases h
  | b :: l, h, a, ha => by
    rw [List.dropWhile_cons] at h
    split at h
    · rename_i hb
      rcases List.mem_cons.1 ha with rfl | ha
      · exact hb
      · exact dropWhile_nil h a ha
    · cases h
theorem dropWhile_all {α : Type} {p : α → Bool} : ∀ {l : List α}, (∀ a ∈ l, p a = true) → l.dropWhile p = []
  | [], _ => rfl
  | b :: l, h => by
    rw [List.dropWhile_cons, if_pos (h b (by simp))]
    exact dropWhile_all fun a ha => h a (by simp [ha])
theorem dropWhile_head {α : Type} {p : α → Bool} : ∀ {l : List α} {a : α} {r : List α}, l.dropWhile p = a :: r → p a = false
  | [], _, _, h => by cases h
  | b :: l, a, r, h => by
    rw [List.dropWhile_cons] at h
    split at h
    · exact dropWhile_head h
    · rename_i hb
      cases h
      simpa using hb
theorem cs_blk (b : UInt8) : ([32, 9] : Bs).contains b = blkB b := by
  unfold blkB
  simp only [List.contains_cons, List.contains_nil, Bool.or_false]
  rw [Bool.or_comm]
/-- a line of blanks -/
theorem trim_nil (l : Bs) : Lib.trimS l [32, 9] = [] ↔ ∀ b ∈ l, blkB b = true := by
  unfold Lib.trimS Lib.trimLeftS Lib.trimRightS
  simp only [cs_blk]
  constructor
  · intro h
    have h1 := dropWhile_nil h
    have h2 : l.reverse.dropWhile (fun b => blkB b) = [] := by
      cases hd : l.reverse.dropWhile (fun b => blkB b) with
      | nil => rfl
      | cons a r =>
        have := dropWhile_head hd
        have h3 := h1 a (by rw [hd]; simp)
        rw [h3] at this; cases this
    intro b hb
    exact dropWhile_nil h2 b (by simpa using hb)
  · intro h
    have h2 : l.reverse.dropWhile (fun b => blkB b) = [] := dropWhile_all fun a ha => h a (by simpa using ha)
    rw [h2]; rfl
theorem pre35 (b : UInt8) (r : Bs) : Lib.hasPrefix (b :: r) [35] = decide (b = 35) := by
  unfold Lib.hasPrefix
  simp only [List.isPrefixOf, Bool.and_true]
  by_cases h : b = 35
  · subst h; rfl
  · simp [h, Ne.symm h]
end Go.Fn
/- Chapter 4, plainly: the laws of places, of what is escaped, of parts and comments. -/
namespace Go.Fn
open Go Go.Lf
theorem take_snoc {α : Type} {l : List α} {i : Nat} (h : i < l.length) : l.take (i + 1) = l.take i ++ [l[i]] := by
  rw [List.take_add_one, List.getElem?_eq_getElem h]
  rfl
/-- a loop over numbers that goes on to its end -/
theorem upto_loop {κ : Type} {B : Int → Option (Int ⊕ κ)} {n : Nat} {v : κ} (h1 : ∀ i : Nat, i < n → B (i : Int) = some (.inl ((i + 1 : Nat) : Int))) (h2 : B (n : Int) = some (.inr v)) :
    ∀ (m i : Nat), i + m = n → loopC B (i : Int) = some v
  | 0, i, h => by
    have : i = n := by omega
    subst this
    rw [loopC_step, h2]
    rfl
  | m + 1, i, h => by
    rw [loopC_step, h1 i (by omega)]
    exact upto_loop h1 h2 m (i + 1) (by omega)
/-- the same with a state -/
theorem upto_loopS {σ κ : Type} {B : Int × σ → Option ((Int × σ) ⊕ κ)} {n : Nat} {v : κ} (S : Nat → σ) (h1 : ∀ i : Nat, i < n → B ((i : Int), S i) = some (.inl (((i + 1 : Nat) : Int), S (i + 1)))) (h2 : B ((n : Int), S n) = some (.inr v)) :
    ∀ (m i : Nat), i + m = n → loopC B ((i : Int), S i) = some v
  | 0, i, h => by
    have : i = n := by omega
    subst this
    rw [loopC_step, h2]
    rfl
  | m + 1, i, h => by
    rw [loopC_step, h1 i (by omega)]
    exact upto_loopS S h1 h2 m (i + 1) (by omega)
theorem same_refl (t : List Tok) (h : t.length ≤ 1000000000) : folioref04_Same t t = some true := by
  unfold folioref04_Same
  have hl := upto_loop (κ := Unit ⊕ Bool) (n := t.length) (v := .inl ()) (B := fun z1 =>
     bif (decide (z1 < (((List.length t) : Nat) : Int))) then (((Go.Lf.idx t z1)).bind fun r2 =>
       ((Go.Lf.idx t z1)).bind fun r3 =>
       bif (!(decide ((r2.1 : Int) ≠ r3.1))) then ((Go.Lf.idx t z1)).bind fun r4 =>
       ((Go.Lf.idx t z1)).bind fun r5 =>
       bif (!(decide ((r4.2.1 : List (UInt8)) ≠ r5.2.1))) then ((Go.Lf.idx t z1)).bind fun r6 =>
       ((Go.Lf.idx t z1)).bind fun r7 =>
       bif (!(decide ((r6.2.2.1 : List (UInt8)) ≠ r7.2.2.1))) then ((Go.Lf.idx t z1)).bind fun r8 =>
       ((Go.Lf.idx t z1)).bind fun r9 =>
       bif (!(decide ((r8.2.2.2.1 : Int) ≠ r9.2.2.2.1))) then ((Go.Lf.idx t z1)).bind fun r10 =>
       ((Go.Lf.idx t z1)).bind fun r11 =>
       some (decide ((r10.2.2.2.2.1 : Int) ≠ r11.2.2.2.2.1))
       else some true
       else some true
       else some true
       else some true).bind fun r12 =>
     bif r12 then some (.inr (.inr false))
     else some (.inl (Go.IntKind.wrap .i64 (z1 + (1 : Int))))
     else some (.inr (.inl ()))) (fun i hi => by
      have h0 : (i : Int) < ((t.length : Nat) : Int) := by omega
      have hg : idx t (i : Int) = some t[i] := by rw [idx_nat, List.getElem?_eq_getElem hi]
      have hw : IntKind.wrap .i64 ((i : Int) + 1) = ((i + 1 : Nat) : Int) := wrapS (by omega)
      simp only [h0, decide_true, cond_true, hg, Option.bind_some, ne_eq, not_true_eq_false, decide_false, Bool.not_false, cond_false, hw]) (by
      have h0 : ¬ ((t.length : Nat) : Int) < ((t.length : Nat) : Int) := by omega
      simp only [h0, decide_false, cond_false]) t.length 0 (by omega)
  have hl : loopC _ (0 : Int) = _ := hl
  simp only [ne_eq, not_true_eq_false, decide_false, cond_false] at hl ⊢
  rw [hl]
  rfl
/-- the lines, as the document cuts them -/
def crL (l : Bs) : Bs := if l.getLast? = some 13 then l.dropLast else l
theorem crS_L (l : Bs) : crS l = crL l := by
  unfold crL
  split
  · rename_i h
    rcases List.eq_nil_or_concat l with rfl | ⟨p, c, rfl⟩
    · cases h
    · rw [List.concat_eq_append] at *
      have : c = 13 := by simpa using h
      subst this
      unfold crS Lib.trimSuffix
      have : Lib.hasSuffix (p ++ [13]) [13] = true := by
        unfold Lib.hasSuffix
        rw [List.isSuffixOf_iff_suffix]
        exact ⟨p, rfl⟩
      rw [if_pos this]
      simp
  · rename_i h
    exact crS_id h
theorem lines_loop (s : Bs) (hs : s.length ≤ 65536) (B : Int × (List Bs × Int) → Option ((Int × (List Bs × Int)) ⊕ List Bs)) (hB : ∀ z1, B z1 = (bif (decide (z1.1 ≤ (((List.length s) : Nat) : Int))) then ((bif (decide (z1.1 < (((List.length s) : Nat) : Int))) then ((Go.Lf.idx s z1.1)).bind fun r2 =>
         some ((decide (((((UInt8.toNat r2) : Nat) : Int) : Int) ≠ (10 : Int))), z1.2.1)
         else some (false, z1.2.1)).bind fun r3 =>
       bif r3.1 then some (.inl (r3.2, z1.2.2))
       else (bif (decide ((z1.1 : Int) = (((List.length s) : Nat) : Int))) then some ((decide ((z1.2.2 : Int) = (((List.length s) : Nat) : Int))), r3.2)
         else some (false, r3.2)).bind fun r4 =>
       bif r4.1 then some (.inr r4.2)
       else ((bif (decide (z1.2.2 < z1.1)) then ((Go.Lf.idx s (Go.IntKind.wrap .i64 (z1.1 - (1 : Int))))).bind fun r5 =>
           some ((decide (((((UInt8.toNat r5) : Nat) : Int) : Int) = (13 : Int))), r4.2)
           else some (false, r4.2)).bind fun r6 =>
         bif r6.1 then some ((Go.IntKind.wrap .i64 (z1.1 - (1 : Int))), r6.2)
         else some (z1.1, r6.2)).bind fun r7 =>
       ((Go.Lf.sub s z1.2.2 r7.1)).bind fun r8 =>
       ((Go.Lf.app (16 : Nat) r7.2 (r8 :: ([] : List (List (UInt8)))))).bind fun r9 =>
       some (.inl (r9, (Go.IntKind.wrap .i64 (z1.1 + (1 : Int))))) : Option (((List (List (UInt8))) × (Int)) ⊕ (List (List (UInt8))))).bind fun r10 =>
     Go.Lf.onSum r10 (fun a11 =>
     some (.inl ((Go.IntKind.wrap .i64 (z1.1 + (1 : Int))), (a11.1, a11.2)))) (fun b12 =>
     some (.inr b12))
     else some (.inr z1.2.1))) : ∀ (m i j : Nat) (out : List Bs), i + m = s.length → j ≤ i → out.length ≤ i → loopC B ((i : Int), (out, (j : Int))) = some (out ++ (linesA ((s.drop j).take (i - j)) (s.drop i)).map crS) := by
  have cut : ∀ (i j : Nat) (out : List Bs), i ≤ s.length → j ≤ i → out.length ≤ i → (((bif (decide ((j : Int) < (i : Int))) then ((Go.Lf.idx s (Go.IntKind.wrap .i64 ((i : Int) - (1 : Int))))).bind fun r5 =>
           some ((decide (((((UInt8.toNat r5) : Nat) : Int) : Int) = (13 : Int))), out)
           else some (false, out)).bind fun r6 =>
         bif r6.1 then some ((Go.IntKind.wrap .i64 ((i : Int) - (1 : Int))), r6.2)
         else some ((i : Int), r6.2)).bind fun r7 =>
       ((Go.Lf.sub s (j : Int) r7.1)).bind fun r8 =>
       ((Go.Lf.app (16 : Nat) r7.2 (r8 :: ([] : List (List (UInt8)))))).bind fun r9 =>
       some ((.inl (r9, (Go.IntKind.wrap .i64 ((i : Int) + (1 : Int))))) : ((List (List (UInt8))) × (Int)) ⊕ (List (List (UInt8))))) = some (.inl (out ++ [crS ((s.drop j).take (i - j))], ((i + 1 : Nat) : Int))) := by
    intro i j out hi hj ho
    have hw : IntKind.wrap .i64 ((i : Int) + 1) = ((i + 1 : Nat) : Int) := wrapS (by omega)
    have ha : ∀ k : Bs, app 16 out [k] = some (out ++ [k]) := fun k => app_of (by simp; omega)
    by_cases hji : j < i
    · have hji' : (j : Int) < (i : Int) := by omega
      have hw1 : IntKind.wrap .i64 ((i : Int) - 1) = ((i - 1 : Nat) : Int) := by rw [wrap64 (by omega) (by omega)]; omega
      have hlt : i - 1 < s.length := by omega
      have hg : idx s ((i - 1 : Nat) : Int) = some s[i - 1] := by rw [idx_nat, List.getElem?_eq_getElem hlt]
      have c1 : decide (((s[i - 1].toNat : Nat) : Int) = 13) = (s[i - 1] == 13) := nat8 _ 13
      have htk : (s.drop j).take (i - j) = (s.drop j).take (i - 1 - j) ++ [s[i - 1]] := by
        have h2 : i - 1 - j < (s.drop j).length := by rw [List.length_drop]; omega
        rw [show i - j = i - 1 - j + 1 by omega, take_snoc h2, List.getElem_drop]
        congr 2
        congr 1
        omega
      simp only [hji', decide_true, cond_true, hw1, hg, Option.bind_some, c1, hw]
      rw [crS_L, htk]
      unfold crL
      by_cases h13 : s[i - 1] = 13
      · have hs1 : sub s (j : Int) ((i - 1 : Nat) : Int) = some ((s.drop j).take (i - 1 - j)) := sub_nat (by omega) (by omega)
        have hb : (s[i - 1] == 13) = true := by simpa using h13
        simp only [hb, cond_true, Option.bind_some, hs1, ha]
        simp [h13]
      · have hs1 : sub s (j : Int) (i : Int) = some ((s.drop j).take (i - 1 - j) ++ [s[i - 1]]) := by rw [← htk]; exact sub_nat hj hi
        have hb : (s[i - 1] == 13) = false := by simpa using h13
        simp only [hb, cond_false, Option.bind_some, hs1, ha]
        simp [h13]
    · have hji' : ¬ (j : Int) < (i : Int) := by omega
      have e : i = j := by omega
      subst e
      have hs1 : sub s (i : Int) (i : Int) = some [] := by rw [sub_nat (Nat.le_refl _) hi, Nat.sub_self, List.take_zero]
      simp only [hji', decide_false, cond_false, Option.bind_some, hs1, ha, hw, Nat.sub_self, List.take_zero]
      rfl
  intro m
  induction m with
  | zero =>
    intro i j out h hj ho
    have e : i = s.length := by omega
    have h0 : ¬ ((i : Int) < ((s.length : Nat) : Int)) := by omega
    have h1 : ((i : Int) ≤ ((s.length : Nat) : Int)) := by omega
    have h2 : ((i : Int) = ((s.length : Nat) : Int)) = True := eq_true (by omega)
    have hd : s.drop i = [] := List.drop_eq_nil_of_le (by omega)
    rw [loopC_step, hB]
    simp only [h0, h1, h2, decide_true, decide_false, cond_true, cond_false, Option.bind_some]
    by_cases hje : j = s.length
    · have h3 : ((j : Int) = ((s.length : Nat) : Int)) = True := eq_true (by omega)
      have hd2 : s.drop j = [] := List.drop_eq_nil_of_le (by omega)
      simp only [h3, decide_true, cond_true, Option.bind_some]
      rw [hd, hd2]
      simp [linesA, onSum]
    · have h3 : ¬ ((j : Int) = ((s.length : Nat) : Int)) := by omega
      simp only [h3, decide_false, cond_false, Option.bind_some]
      have hcut := cut i j out (by omega) (by omega) (by omega)
      rw [hcut]
      have hne : (s.drop j).take (i - j) ≠ [] := by
        intro h
        have := congrArg List.length h
        rw [List.length_take, List.length_drop] at this
        simp at this; omega
      have hw : IntKind.wrap .i64 ((i : Int) + 1) = ((i + 1 : Nat) : Int) := wrapS (by omega)
      simp only [Option.bind_some, onSum, hw]
      rw [hd, linesA, if_neg hne]
      rw [loopC_step, hB]
      have h4 : ¬ (((i + 1 : Nat) : Int) ≤ ((s.length : Nat) : Int)) := by omega
      simp only [h4, decide_false, cond_false]
      rfl
  | succ m ih =>
    intro i j out h hj ho
    have hlt : i < s.length := by omega
    have h0 : ((i : Int) < ((s.length : Nat) : Int)) := by omega
    have h1 : ((i : Int) ≤ ((s.length : Nat) : Int)) := by omega
    have h2 : ¬ ((i : Int) = ((s.length : Nat) : Int)) := by omega
    have hg : idx s (i : Int) = some s[i] := by rw [idx_nat, List.getElem?_eq_getElem hlt]
    have c1 : decide (((s[i].toNat : Nat) : Int) = 10) = (s[i] == 10) := nat8 _ 10
    have hw : IntKind.wrap .i64 ((i : Int) + 1) = ((i + 1 : Nat) : Int) := wrapS (by omega)
    have hd : s.drop i = s[i] :: s.drop (i + 1) := List.drop_eq_getElem_cons hlt
    rw [loopC_step, hB]
    simp only [h0, h1, h2, decide_true, decide_false, cond_true, cond_false, Option.bind_some, hg, ne_eq, decide_not, c1]
    rw [hd, linesA]
    by_cases h10 : s[i] = 10
    · simp only [h10, beq_self_eq_true, Bool.not_true, cond_false, Option.bind_some, if_true]
      rw [cut i j out (by omega) hj ho]
      simp only [Option.bind_some, onSum, hw]
      have := ih (i + 1) (i + 1) (out ++ [crS ((s.drop j).take (i - j))]) (by omega) (Nat.le_refl _) (by simp; omega)
      rw [this, Nat.sub_self, List.take_zero]
      simp
    · have hb : (s[i] == 10) = false := by simpa using h10
      simp only [hb, Bool.not_false, cond_true, Option.bind_some, onSum, hw, if_neg h10]
      have htk2 : (s.drop j).take (i + 1 - j) = (s.drop j).take (i - j) ++ [s[i]] := by
        have h2 : i - j < (s.drop j).length := by rw [List.length_drop]; omega
        have h3 : j + (i - j) = i := by omega
        rw [show i + 1 - j = i - j + 1 by omega, take_snoc h2, List.getElem_drop]
        simp only [h3]
      have := ih (i + 1) j out (by omega) (by omega) (by omega)
      rw [this, htk2]
theorem lines_eq (s : Bs) (hs : s.length ≤ 65536) : folioref04_Lines s = some ((linesA [] s).map crS) := by
  unfold folioref04_Lines
  have e := lines_loop s hs _ (fun _ => rfl) s.length 0 0 [] (by omega) (Nat.le_refl _) (Nat.le_refl _)
  have e : loopC _ ((0 : Int), (([] : List Bs), (0 : Int))) = _ := e
  rw [e]
  simp
theorem lex_len {s : Bs} {t : List Tok} (h : lexS s = .ok t) : s.length ≤ 65536 := by
  unfold lexS at h
  split at h
  · cases h
  · omega
end Go.Fn
/- Chapter 4, plainly: the document's characters. -/
namespace Go.Fn
open Go Go.Lf
abbrev Chr := Int × Int × Int × Bool × Unit
def chr_ (l : Bs) (p : Nat) : Chr := (((Lib.decodeL (l.drop p)).1 : Int), (p : Int), ((Lib.decodeL (l.drop p)).2 : Int), decide ((Lib.decodeL (l.drop p)).1 = 65533) && decide ((Lib.decodeL (l.drop p)).2 = 1), ())
def chS (l : Bs) : Nat → Nat → List Chr
  | 0, _ => []
  | f + 1, p => if p < l.length then chr_ l p :: chS l f (p + (Lib.decodeL (l.drop p)).2) else []
def rawC (c : Chr) : Chr := (c.1, c.2.1, 0, false, ())
theorem dec_fit (l : Bs) (p : Nat) (h : p < l.length) : p + (Lib.decodeL (l.drop p)).2 ≤ l.length := by
  have := Lib.decodeL_le (l.drop p) (by intro e; have := congrArg List.length e; simp at this; omega)
  rw [List.length_drop] at this
  omega
theorem ch_cons {l : Bs} {f p : Nat} (h : p < l.length) : chS l (f + 1) p = chr_ l p :: chS l f (p + (Lib.decodeL (l.drop p)).2) := by rw [chS, if_pos h]
theorem ch_nil {l : Bs} {f p : Nat} (h : ¬ p < l.length) : chS l f p = [] := by
  cases f with
  | zero => rfl
  | succ f => rw [chS, if_neg h]
theorem ch_fuel (l : Bs) : ∀ (f g p : Nat), l.length ≤ p + f → l.length ≤ p + g → chS l f p = chS l g p
  | 0, g, p, h1, _ => by rw [ch_nil (by omega), ch_nil (by omega)]
  | f + 1, g, p, h1, h2 => by
    by_cases hq : p < l.length
    · have hw := Lib.decodeL_width (l.drop p)
      cases g with
      | zero => omega
      | succ g => rw [ch_cons hq, ch_cons hq, ch_fuel l f g _ (by omega) (by omega)]
    · rw [ch_nil hq, ch_nil hq]
theorem ch_len (l : Bs) : ∀ (f p : Nat), (chS l f p).length ≤ f
  | 0, _ => Nat.le_refl _
  | f + 1, p => by
    unfold chS
    split
    · have := ch_len l f (p + (Lib.decodeL (l.drop p)).2)
      simp; omega
    · simp
/-- each is a character of the text; where the next one stands -/
theorem ch_get (l : Bs) : ∀ (f p : Nat), l.length ≤ p + f → ∀ (i : Nat) c, (chS l f p)[i]? = some c →
    (∃ q : Nat, c = chr_ l q ∧ q < l.length) ∧ (match (chS l f p)[i + 1]? with | some d => d.2.1 = c.2.1 + c.2.2.1 | none => (l.length : Int) = c.2.1 + c.2.2.1)
  | 0, p, _, i, c, h => by simp [chS] at h
  | f + 1, p, hf, i, c, h => by
    by_cases hp : p < l.length
    · have hw := Lib.decodeL_width (l.drop p)
      have hfit := dec_fit l p hp
      rw [ch_cons hp] at h ⊢
      cases i with
      | zero =>
        have hc : chr_ l p = c := by simpa using h
        subst hc
        refine ⟨⟨p, rfl, hp⟩, ?_⟩
        simp only [List.getElem?_cons_succ]
        by_cases hq : p + (Lib.decodeL (l.drop p)).2 < l.length
        · cases f with
          | zero => omega
          | succ f => rw [ch_cons hq]; simp [chr_]
        · rw [ch_nil hq]
          simp [chr_]; omega
      | succ i =>
        have := ch_get l f (p + (Lib.decodeL (l.drop p)).2) (by omega) i c (by simpa using h)
        simpa using this
    · rw [ch_nil hp] at h; simp at h
def mixC (F : List Chr) (i : Nat) : List Chr := F.take i ++ (F.drop i).map rawC
theorem mix_len (F : List Chr) (i : Nat) : (mixC F i).length = F.length := by simp [mixC]; omega
theorem mix_hi {F : List Chr} {i j : Nat} {c : Chr} (hj : i ≤ j) (h : F[j]? = some c) : (mixC F i)[j]? = some (rawC c) := by
  have hl := (List.getElem?_eq_some_iff.1 h).1
  unfold mixC
  rw [List.getElem?_append_right (by simp; omega), List.getElem?_map, List.getElem?_drop]
  rw [show i + (j - (F.take i).length) = j by simp; omega, h]
  rfl
theorem mix_set {F : List Chr} {i : Nat} {c : Chr} (h : F[i]? = some c) : (mixC F i).set i c = mixC F (i + 1) := by
  obtain ⟨hl, hc⟩ := List.getElem?_eq_some_iff.1 h
  unfold mixC
  have h1 : F.take (i + 1) = F.take i ++ [c] := by rw [List.take_add_one, h]; rfl
  rw [List.drop_eq_getElem_cons hl, hc, List.map_cons, List.set_append_right _ _ (by simp; omega), h1]
  simp [show i - min i F.length = 0 by omega]
theorem chk_nat {n i : Nat} (h : i < n) : chk n (i : Int) = some i := by
  unfold chk
  rw [if_pos (by omega)]
  simp
theorem chars_eq (l : Bs) (hl : l.length ≤ 100000) : folioref02_Chars l = some (chS l l.length 0) := by
  unfold folioref02_Chars
  have loop1 : ∀ (B : List Chr × (Bs × Int) → Option ((List Chr × (Bs × Int)) ⊕ List Chr)), (∀ z1, B z1 = (bif (decide (z1.2.2 < (((List.length z1.2.1) : Nat) : Int))) then ((Go.Lf.app (32 : Nat) z1.1 (((Go.Lf.runeAt z1.2.1 z1.2.2), (z1.2.2, ((0 : Int), (false, ())))) :: ([] : List Chr)))).bind fun r2 =>
     some (.inl (r2, (z1.2.1, (z1.2.2 + (Go.Lf.runeW z1.2.1 z1.2.2)))))
     else some (.inr z1.1))) → ∀ (f p : Nat) (acc : List Chr), l.length ≤ p + f → p ≤ l.length → acc.length ≤ p → loopC B (acc, (l, (p : Int))) = some (acc ++ (chS l f p).map rawC) := by
    intro B hB f
    induction f with
    | zero =>
      intro p acc h1 h2 h3
      have h0 : ¬ (p : Int) < ((l.length : Nat) : Int) := by omega
      rw [loopC_step, hB]
      simp only [h0, decide_false, cond_false]
      simp [chS]
    | succ f ih =>
      intro p acc h1 h2 h3
      by_cases hp : p < l.length
      · have h0 : (p : Int) < ((l.length : Nat) : Int) := by omega
        have hw := Lib.decodeL_width (l.drop p)
        have hfit := dec_fit l p hp
        have e1 : runeAt l (p : Int) = ((Lib.decodeL (l.drop p)).1 : Int) := by unfold runeAt; rw [Int.toNat_natCast, decode_drop]
        have e2 : (p : Int) + runeW l (p : Int) = ((p + (Lib.decodeL (l.drop p)).2 : Nat) : Int) := by unfold runeW; rw [Int.toNat_natCast, decode_drop]; omega
        have ha : ∀ k : Chr, app 32 acc [k] = some (acc ++ [k]) := fun k => app_of (by simp; omega)
        rw [loopC_step, hB]
        simp only [h0, decide_true, cond_true, ha, Option.bind_some, e1, e2]
        rw [ih _ _ (by omega) hfit (by simp; omega), ch_cons hp]
        simp [rawC, chr_]
      · have h0 : ¬ (p : Int) < ((l.length : Nat) : Int) := by omega
        rw [loopC_step, hB, ch_nil hp]
        simp only [h0, decide_false, cond_false]
        simp
  have e1 := loop1 _ (fun _ => rfl) l.length 0 [] (by omega) (by omega) (Nat.le_refl _)
  have e1 : loopC _ (([] : List Chr), (l, (0 : Int))) = _ := e1
  rw [e1]
  simp only [List.nil_append, Option.bind_some]
  have hF := ch_get l l.length 0 (by omega)
  have hFl := ch_len l l.length 0
  generalize hFe : chS l l.length 0 = F at *
  have e0 : F.map rawC = mixC F 0 := by simp [mixC]
  rw [e0]
  have e9 : mixC F F.length = F := by simp [mixC]
  refine Option.bind_eq_some_iff.2 ⟨F, ?_, rfl⟩
  refine upto_loopS (n := F.length) (v := F) (mixC F) (fun i hi => ?_) ?_ F.length 0 (by omega)
  · obtain ⟨c, hc⟩ : ∃ c, F[i]? = some c := ⟨_, List.getElem?_eq_getElem hi⟩
    obtain ⟨⟨q, hq, hql⟩, hnx⟩ := hF i c hc
    have hwf := dec_fit l q hql
    have h0 : (i : Int) < (((mixC F i).length : Nat) : Int) := by rw [mix_len]; omega
    have hw : IntKind.wrap .i64 ((i : Int) + 1) = ((i + 1 : Nat) : Int) := wrapS (by omega)
    have hck : ∀ L : List Chr, L.length = F.length → chk L.length (i : Int) = some i := fun L hL => chk_nat (by omega)
    have hn0 : nth (mixC F i) i = some (rawC c) := mix_hi (Nat.le_refl _) hc
    have hml := mix_len F i
    have hend : (bif (decide ((IntKind.wrap .i64 ((i : Int) + (1 : Int))) < (((List.length (mixC F i)) : Nat) : Int))) then ((Go.Lf.chk (List.length (mixC F i)) (IntKind.wrap .i64 ((i : Int) + (1 : Int))))).bind fun r5 =>
         ((Go.Lf.nth (mixC F i) r5)).bind fun r6 =>
         some (mixC F i, r6.2.1)
         else some (mixC F i, (((List.length l) : Nat) : Int))) = some (mixC F i, c.2.1 + c.2.2.1) := by
      rw [hw]
      by_cases h1 : i + 1 < F.length
      · have h1' : ((i + 1 : Nat) : Int) < (((mixC F i).length : Nat) : Int) := by rw [hml]; omega
        obtain ⟨d, hd⟩ : ∃ d, F[i + 1]? = some d := ⟨_, List.getElem?_eq_getElem h1⟩
        rw [hd] at hnx
        have hnx : d.2.1 = c.2.1 + c.2.2.1 := hnx
        have hk1 : chk (mixC F i).length ((i + 1 : Nat) : Int) = some (i + 1) := chk_nat (by rw [hml]; omega)
        have hn1 : nth (mixC F i) (i + 1) = some (rawC d) := mix_hi (by omega) hd
        simp only [h1', decide_true, cond_true, hk1, Option.bind_some, hn1, rawC, hnx]
      · have h1' : ¬ ((i + 1 : Nat) : Int) < (((mixC F i).length : Nat) : Int) := by rw [hml]; omega
        rw [List.getElem?_eq_none (by omega)] at hnx
        have hnx : ((l.length : Nat) : Int) = c.2.1 + c.2.2.1 := hnx
        simp only [h1', decide_false, cond_false, hnx]
    have hwn : IntKind.wrap .i64 (c.2.1 + c.2.2.1 - c.2.1) = c.2.2.1 := by
      rw [hq]
      simp only [chr_]
      rw [wrap64 (by omega) (by omega)]; omega
    have hset1 : ∀ x : Chr, nth ((mixC F i).set i x) i = some x := fun x => by
      unfold nth
      rw [List.getElem?_set_self (by rw [hml]; exact hi)]
    simp only [h0, decide_true, cond_true]
    rw [hend]
    simp only [Option.bind_some, hck _ hml, hn0, rawC, hwn, List.length_set, hset1, List.set_set, hw]
    have hfin : ∀ b : Bool, b = c.2.2.2.1 → (mixC F i).set i (c.1, c.2.1, c.2.2.1, b, ()) = mixC F (i + 1) := fun b hb => by
      rw [← mix_set hc, hb]
    have hbad : c.2.2.2.1 = (decide (c.1 = 65533) && decide (c.2.2.1 = 1)) := by
      rw [hq]
      have e1 : decide ((((Lib.decodeL (l.drop q)).1 : Nat) : Int) = 65533) = decide ((Lib.decodeL (l.drop q)).1 = 65533) := decide_eq_decide.2 (by omega)
      have e2 : decide ((((Lib.decodeL (l.drop q)).2 : Nat) : Int) = 1) = decide ((Lib.decodeL (l.drop q)).2 = 1) := decide_eq_decide.2 (by omega)
      show _ = (decide ((((Lib.decodeL (l.drop q)).1 : Nat) : Int) = 65533) && decide ((((Lib.decodeL (l.drop q)).2 : Nat) : Int) = 1))
      rw [e1, e2]
      rfl
    cases h65 : decide (c.1 = 65533) with
    | true =>
      rw [h65, Bool.true_and] at hbad
      simp only [cond_true, Option.bind_some]
      rw [hfin _ hbad.symm]
    | false =>
      rw [h65, Bool.false_and] at hbad
      simp only [cond_false, Option.bind_some]
      rw [hfin _ hbad.symm]
  · have h0 : ¬ ((F.length : Nat) : Int) < ((F.length : Nat) : Int) := by omega
    simp only [e9, h0, decide_false, cond_false]
end Go.Fn
/- Chapter 4, plainly: the document's lexer, its small steps beside the program's. -/
namespace Go.Fn
open Go Go.Lf
abbrev RxT := List Tok × (Int × Int × Int × Bs × Unit) × Bool × List Tok × Tok × List Int × Tok × Bool × Unit
def tkT : Option (Int × Int) → Tok
  | none => (0, [], [], 0, 0, ())
  | some r => (6, [], [], r.1, r.2, ())
def wrT : Option Wr → Int × Int × Int × Bs × Unit
  | none => (0, 0, 0, [], ())
  | some w => (w.code, w.line, w.col, w.word, ())
def opT (l : List Brc) : List Tok := l.map fun b => (3, b.1, [], b.2.1, b.2.2.1, ())
/-- the document's state, told of the program's: whether in a paragraph, whether behind a name, the first fault -/
def rxW (w : Option Wr) (p q : Bool) (x : Lx) : RxT := (x.out, wrT w, p, opT x.opn, tkT (x.run.map (·.2)), bytesI ((x.run.map (·.1)).getD []), tkT x.bl, q, ())
abbrev rx := rxW none
theorem bytesUI (l : Bs) : bytesU (bytesI l) = l := by
  unfold bytesU bytesI
  rw [List.map_map]
  conv => rhs; rw [← List.map_id l]
  refine List.map_congr_left fun b _ => ?_
  simp
theorem bytesI_len (l : Bs) : (bytesI l).length = l.length := by unfold bytesI; rw [List.length_map]
theorem bytesI_append (l m : Bs) : bytesI (l ++ m) = bytesI l ++ bytesI m := by unfold bytesI; rw [List.map_append]
theorem fail_eq (p q : Bool) (x : Lx) (code line col : Int) (word : Bs) : folioref04_lexer__fail (rx p q x) code line col word = some (rxW (some ⟨code, line, col, word⟩) p q x) := rfl
theorem fail_two (w : Wr) (hw : w.code ≠ 0) (p q : Bool) (x : Lx) (code line col : Int) (word : Bs) : folioref04_lexer__fail (rxW (some w) p q x) code line col word = some (rxW (some w) p q x) := by
  unfold folioref04_lexer__fail
  simp [rxW, wrT, hw]
theorem rput_eq {x : Lx} {n : Nat} (h : x.Ok n) (p q : Bool) (s : Bs) (l c : Int) (hn : n + s.length ≤ 1000000000) : folioref04_lexer__put (rx p q x) s l c = some (rx p false (putS x s l c)) := by
  obtain ⟨out, opn, ins, run, bl, fresh, line⟩ := x
  unfold folioref04_lexer__put
  cases run with
  | none =>
    have hc : app 1 ([] : List Int) (bytesI s) = some (bytesI s) := (app_of (by rw [bytesI_len]; simp; omega)).trans rfl
    simp only [rxW, tkT, Option.map_none, Option.getD_none]
    simp only [show bytesI [] = ([] : List Int) from rfl]
    simp [hc, putS]
  | some r =>
    obtain ⟨h1, h2⟩ := h.run r rfl
    have hc : app 1 (bytesI r.1) (bytesI s) = some (bytesI r.1 ++ bytesI s) := app_of (by rw [bytesI_len, bytesI_len]; omega)
    simp only [rxW, tkT, Option.map_some, Option.getD_some]
    simp [hc, putS, bytesI_append]
/-- the blank that waits, put -/
def settle0 (x : Lx) : Lx := match x.bl with
  | none => x
  | some r => { putS x [32] r.1 r.2 with bl := none }
theorem settle0_ok {x : Lx} {n m : Nat} (h : x.Ok n) (hn : n + 1 ≤ m) : (settle0 x).Ok m := by
  unfold settle0
  split
  · exact h.mono (by omega)
  · rename_i r hr
    have := put_ok (m := m) h [32] r.1 r.2 (by simp) (by simp; omega)
    exact ⟨this.out, this.opn, this.run, fun q hq => by cases hq⟩
theorem settle0_rx (p q : Bool) (x : Lx) : rx p q (settle0 x) = rx p q (settleS x) := by
  unfold settle0 settleS
  cases hb : x.bl with
  | none => simp only [rxW, hb]
  | some r => rfl
theorem rest_eq {x : Lx} {n : Nat} (h : x.Ok n) (p q : Bool) (hn : n ≤ 999999999) : ∃ q', folioref04_lexer__rest (rx p q x) = some (rx p q' (settleS x)) := by
  have key : ∃ q', folioref04_lexer__rest (rx p q x) = some (rx p q' (settle0 x)) := by
   unfold folioref04_lexer__rest settle0
   cases hb : x.bl with
   | none =>
    refine ⟨q, ?_⟩
    simp only [rxW, tkT, hb]
    rfl
   | some r =>
    refine ⟨false, ?_⟩
    have hp := rput_eq h p q [32] r.1 r.2 (by simp; omega)
    have e1 : (rx p q x).2.2.2.2.2.2.1 = (6, [], [], r.1, r.2, ()) := by simp only [rxW, tkT, hb]
    rw [e1]
    simp only [decide_true, cond_true, hp, Option.bind_some]
    rfl
  obtain ⟨q', e⟩ := key
  exact ⟨q', by rw [e, settle0_rx]⟩
theorem rest_put {x : Lx} {n : Nat} (h : x.Ok n) (p q : Bool) (s : Bs) (l c : Int) (hn : n + 1 + s.length ≤ 999999999) : ((folioref04_lexer__rest (rx p q x)).bind fun z => folioref04_lexer__put z s l c) = some (rx p false (putS (settleS x) s l c)) := by
  obtain ⟨q', e⟩ := rest_eq h p q (by omega)
  rw [e]
  exact rput_eq (settle_ok (m := n + 1) h (Nat.le_refl _)) p q' s l c (by omega)
theorem rflush_eq {x : Lx} {n : Nat} (h : x.Ok n) (w : Option Wr) (p q : Bool) (hn : n ≤ 999999999) : folioref04_lexer__flush (rxW w p q x) = some (rxW w p q (flushS x)) := by
  obtain ⟨out, opn, ins, run, bl, fresh, line⟩ := x
  have ho : out.length ≤ n := h.out
  unfold folioref04_lexer__flush
  cases run with
  | none => simp [rxW, tkT, flushS, bytesI]
  | some r =>
    have ha : app 56 out [((6 : Int), ([] : Bs), r.1, r.2.1, r.2.2, ())] = some (out ++ [(6, [], r.1, r.2.1, r.2.2, ())]) := app_of (by simp; omega)
    simp only [rxW, tkT, Option.map_some, Option.getD_some, decide_true, cond_true, bytesUI, ha, Option.bind_some]
    rfl
theorem mark_eq' {x : Lx} {n : Nat} (h : x.Ok n) (p q : Bool) (k : Int) (s : Bs) (c : Int) (hn : n ≤ 99999990) : folioref04_lexer__mark (rx p q x) (k, s, [], (x.line : Int), c, ()) = some (rx p false (tokS x k s c)) := by
  have h1 := settle_ok (m := n + 1) h (Nat.le_refl _)
  have h2 := flush_ok (m := n + 2) h1 (Nat.le_refl _)
  obtain ⟨q', e⟩ := rest_eq h p q (by omega)
  unfold folioref04_lexer__mark
  rw [e]
  simp only [Option.bind_some]
  rw [rflush_eq h1 none p q' (by omega)]
  have ho := h2.out
  have ha : app 56 (flushS (settleS x)).out [(k, s, ([] : Bs), ((x.line : Nat) : Int), c, ())] = some ((flushS (settleS x)).out ++ [(k, s, [], ((x.line : Nat) : Int), c, ())]) := app_of (by simp; omega)
  have e2 : (rx p q' (flushS (settleS x))).1 = (flushS (settleS x)).out := rfl
  simp only [Option.bind_some, e2, ha]
  rfl
theorem pause_eq {x : Lx} (p q : Bool) (c : Int) (h : (p = true ∧ q = x.fresh) ∨ (p = false ∧ x.fresh = true)) : folioref04_lexer__pause (rx p q x) (x.line : Int) c = some (rx p q (waitS x c)) := by
  obtain ⟨out, opn, ins, run, bl, fresh, line⟩ := x
  unfold folioref04_lexer__pause waitS
  rcases h with ⟨rfl, h⟩ | ⟨rfl, h⟩
  · have h : q = fresh := h
    subst h
    cases q with
    | true => rfl
    | false => cases bl <;> rfl
  · have h : fresh = true := h
    subst h
    rfl
theorem begin_eq' {x : Lx} (p q : Bool) (h : p = true ∨ (p = false ∧ x.bl = none)) : ∃ q', folioref04_lexer__begin (rx p q x) = some (rx true q' x) := by
  unfold folioref04_lexer__begin
  rcases h with rfl | ⟨rfl, h⟩
  · exact ⟨q, rfl⟩
  · refine ⟨false, ?_⟩
    simp only [rxW, tkT, h]
    rfl
theorem rblank_eq (b : UInt8) : folioref04_blank ((b.toNat : Nat) : Int) = some (blkB b) := by
  have c1 : decide (((b.toNat : Nat) : Int) = 9) = (b == 9) := nat8 b 9
  have c2 : decide (((b.toNat : Nat) : Int) = 32) = (b == 32) := nat8 b 32
  unfold folioref04_blank blkB
  rw [c1, c2]
  cases b == 9 <;> cases b == 32 <;> rfl
theorem rspecial_eq (b : UInt8) : folioref04_special ((b.toNat : Nat) : Int) = some (spcB b) := by
  have c1 : decide (((b.toNat : Nat) : Int) = 92) = (b == 92) := nat8 b 92
  have c2 : decide (((b.toNat : Nat) : Int) = 123) = (b == 123) := nat8 b 123
  have c3 : decide (((b.toNat : Nat) : Int) = 125) = (b == 125) := nat8 b 125
  have c4 : decide (((b.toNat : Nat) : Int) = 124) = (b == 124) := nat8 b 124
  have c5 : decide (((b.toNat : Nat) : Int) = 46) = (b == 46) := nat8 b 46
  have c6 : decide (((b.toNat : Nat) : Int) = 35) = (b == 35) := nat8 b 35
  unfold folioref04_special spcB
  rw [c1, c2, c3, c4, c5, c6]
  cases b == 92 <;> cases b == 123 <;> cases b == 125 <;> cases b == 124 <;> cases b == 46 <;> cases b == 35 <;> rfl
theorem rletter_eq (b : UInt8) : folioref04_letter ((b.toNat : Nat) : Int) = some (letB b) := by
  unfold folioref04_letter letB
  by_cases h1 : 97 ≤ b.toNat
  · have h1' : (97 : Int) ≤ ((b.toNat : Nat) : Int) := by omega
    by_cases h2 : b.toNat ≤ 122
    · have h2' : ((b.toNat : Nat) : Int) ≤ 122 := by omega
      simp [h1, h1', h2, h2']
    · have h2' : ¬ ((b.toNat : Nat) : Int) ≤ 122 := by omega
      simp [h1', h2, h2']
  · have h1' : ¬ (97 : Int) ≤ ((b.toNat : Nat) : Int) := by omega
    simp [h1, h1']
theorem letters_eq (s : Bs) (a : Nat) (hs : s.length ≤ 1000000) (ha : a ≤ s.length) : folioref04_letters s (a : Int) = some ((lets (s.drop a) : Nat) : Int) := by
  unfold folioref04_letters
  have loop : ∀ (B : Int → Option (Int ⊕ Int)), (∀ z1, B z1 = ((bif (decide ((Go.IntKind.wrap .i64 ((a : Int) + z1)) < (((List.length s) : Nat) : Int))) then ((Go.Lf.idx s (Go.IntKind.wrap .i64 ((a : Int) + z1)))).bind fun r2 =>
       ((Go.Fn.folioref04_letter (((UInt8.toNat r2) : Nat) : Int))).bind fun r3 =>
       some r3
       else some false).bind fun r4 =>
     bif r4 then some (.inl (Go.IntKind.wrap .i64 (z1 + (1 : Int))))
     else some (.inr z1))) → ∀ (m k : Nat), a + k + m = s.length → loopC B (k : Int) = some ((k + lets (s.drop (a + k)) : Nat) : Int) := by
    intro B hB m
    induction m with
    | zero =>
      intro k hk
      have hw : IntKind.wrap .i64 ((a : Int) + (k : Int)) = ((a + k : Nat) : Int) := by rw [wrap64 (by omega) (by omega)]; omega
      have h0 : ¬ ((a + k : Nat) : Int) < ((s.length : Nat) : Int) := by omega
      rw [loopC_step, hB]
      simp only [hw, h0, decide_false, cond_false, Option.bind_some]
      rw [List.drop_eq_nil_of_le (by omega)]
      rfl
    | succ m ih =>
      intro k hk
      have hlt : a + k < s.length := by omega
      have hw : IntKind.wrap .i64 ((a : Int) + (k : Int)) = ((a + k : Nat) : Int) := by rw [wrap64 (by omega) (by omega)]; omega
      have h0 : ((a + k : Nat) : Int) < ((s.length : Nat) : Int) := by omega
      have hg : idx s ((a + k : Nat) : Int) = some s[a + k] := by rw [idx_nat, List.getElem?_eq_getElem hlt]
      have hw1 : IntKind.wrap .i64 ((k : Int) + 1) = ((k + 1 : Nat) : Int) := wrapS (by omega)
      rw [loopC_step, hB]
      simp only [hw, h0, decide_true, cond_true, hg, Option.bind_some, rletter_eq, hw1]
      rw [List.drop_eq_getElem_cons hlt, lets_cons]
      cases hl : letB s[a + k] with
      | true =>
        simp only [cond_true, if_true]
        have := ih (k + 1) (by omega)
        rw [show a + (k + 1) = a + k + 1 by omega] at this
        show loopC B ((k + 1 : Nat) : Int) = _
        rw [this]
        congr 2; omega
      | false =>
        simp only [cond_false, Bool.false_eq_true, if_false]
        rfl
  have e := loop _ (fun _ => rfl) (s.length - a) 0 (by omega)
  have e : loopC _ (0 : Int) = _ := e
  rw [e]
  simp
end Go.Fn
/- Chapter 4, plainly: the document's lexer, what it asks of a line. -/
namespace Go.Fn
open Go Go.Lf
theorem bind_of {α β : Type} {x : Option α} {v : α} {f : α → Option β} {r : Option β} (h : x = some v) (h2 : f v = r) : x.bind f = r := by
  subst h; exact h2
theorem takeWhile_mem {α : Type} {p : α → Bool} : ∀ {l : List α} {a : α}, a ∈ l.takeWhile p → p a = true
  | [], _, h => by cases h
  | b :: l, a, h => by
    rw [List.takeWhile_cons] at h
    split at h
    · rename_i hb
      rcases List.mem_cons.1 h with rfl | h
      · exact hb
      · exact takeWhile_mem h
    · cases h
/-- a loop that looks for the first -/
theorem find_loop {α κ : Type} {F : List α} {B : Int → Option (Int ⊕ κ)} (p : α → Bool) (g : α → κ) (fin : κ) (h1 : ∀ (i : Nat) x, F[i]? = some x → B (i : Int) = some (if p x then .inr (g x) else .inl ((i + 1 : Nat) : Int))) (h2 : B (F.length : Int) = some (.inr fin)) :
    ∀ (m i : Nat), i + m = F.length → loopC B (i : Int) = some (((F.drop i).find? p).elim fin g)
  | 0, i, h => by
    have : i = F.length := by omega
    subst this
    rw [loopC_step, h2, List.drop_length]
    rfl
  | m + 1, i, h => by
    have hlt : i < F.length := by omega
    rw [loopC_step, h1 i F[i] (List.getElem?_eq_getElem hlt), List.drop_eq_getElem_cons hlt, List.find?_cons]
    cases hp : p F[i] with
    | true => rfl
    | false => exact find_loop p g fin h1 h2 m (i + 1) (by omega)
theorem trim_comm (p : UInt8 → Bool) (s : Bs) : ((s.dropWhile p).reverse.dropWhile p).reverse = ((s.reverse.dropWhile p).reverse).dropWhile p := by
  have hs : s.takeWhile p ++ s.dropWhile p = s := List.takeWhile_append_dropWhile
  have ht : ∀ b ∈ s.takeWhile p, p b = true := fun b hb => takeWhile_mem hb
  cases hd : s.dropWhile p with
  | nil =>
    have h1 := dropWhile_nil hd
    have h2 : s.reverse.dropWhile p = [] := dropWhile_all fun a ha => h1 a (by simpa using ha)
    rw [h2]
    rfl
  | cons x r =>
    have hx := dropWhile_head hd
    rw [hd] at hs
    generalize s.takeWhile p = t at *
    subst hs
    have e1 : (x :: r).reverse.dropWhile p = r.reverse.dropWhile p ++ [x] := by
      rw [List.reverse_cons, List.dropWhile_append]
      split
      · rename_i h
        rw [List.isEmpty_iff] at h
        rw [h]
        simp [hx]
      · rfl
    have e2 : (t ++ x :: r).reverse.dropWhile p = r.reverse.dropWhile p ++ [x] ++ t.reverse := by
      rw [List.reverse_append, List.dropWhile_append, e1]
      simp
    rw [e1, e2]
    simp only [List.reverse_append, List.reverse_reverse, List.reverse_cons, List.reverse_nil, List.nil_append, List.singleton_append]
    rw [List.dropWhile_append_of_pos ht, List.dropWhile_cons, if_neg (by rw [hx]; decide)]
theorem strip_eq (s : Bs) (hs : s.length ≤ 1000000) : folioref04_strip s = some (Lib.trimS s [32, 9]) := by
  unfold folioref04_strip
  have l1 : ∀ (B : Bs → Option (Bs ⊕ Bs)), (∀ z1, B z1 = ((bif (decide ((0 : Int) < (((List.length z1) : Nat) : Int))) then ((Go.Lf.idx z1 (0 : Int))).bind fun r2 =>
       ((Go.Fn.folioref04_blank (((UInt8.toNat r2) : Nat) : Int))).bind fun r3 =>
       some r3
       else some false).bind fun r4 =>
     bif r4 then ((Go.Lf.sub z1 (1 : Int) (((List.length z1) : Nat) : Int))).bind fun r5 =>
     some (.inl r5)
     else some (.inr z1))) → ∀ z : Bs, loopC B z = some (z.dropWhile (fun b => blkB b)) := by
    intro B hB z
    induction z with
    | nil => rw [loopC_step, hB]; rfl
    | cons b r ih =>
      have h0 : (0 : Int) < (((b :: r).length : Nat) : Int) := by simp
      have hg : idx (b :: r) (0 : Int) = some b := idx_nat (b :: r) 0
      have hsb : sub (b :: r) (1 : Int) (((b :: r).length : Nat) : Int) = some r := sub_end (l := b :: r) (a := 1) (by simp)
      rw [loopC_step, hB, List.dropWhile_cons]
      simp only [h0, decide_true, cond_true, hg, Option.bind_some, rblank_eq]
      cases hb : blkB b with
      | true =>
        simp only [cond_true, hsb, Option.bind_some, if_true]
        exact ih
      | false => rfl
  have l2 : ∀ (B : Bs → Option (Bs ⊕ Bs)), (∀ z7, B z7 = ((bif (decide ((0 : Int) < (((List.length z7) : Nat) : Int))) then ((Go.Lf.idx z7 (Go.IntKind.wrap .i64 ((((List.length z7) : Nat) : Int) - (1 : Int))))).bind fun r8 =>
       ((Go.Fn.folioref04_blank (((UInt8.toNat r8) : Nat) : Int))).bind fun r9 =>
       some r9
       else some false).bind fun r10 =>
     bif r10 then ((Go.Lf.sub z7 (0 : Int) (Go.IntKind.wrap .i64 ((((List.length z7) : Nat) : Int) - (1 : Int))))).bind fun r11 =>
     some (.inl r11)
     else some (.inr z7))) → ∀ (n : Nat) (z : Bs), z.length ≤ n → n ≤ 1000000 → loopC B z = some ((z.reverse.dropWhile (fun b => blkB b)).reverse) := by
    intro B hB n
    induction n with
    | zero =>
      intro z hz _
      have : z = [] := List.eq_nil_of_length_eq_zero (by omega)
      subst this
      rw [loopC_step, hB]; rfl
    | succ n ih =>
      intro z hz hn
      rcases List.eq_nil_or_concat z with rfl | ⟨r, b, rfl⟩
      · rw [loopC_step, hB]; rfl
      · rw [List.concat_eq_append] at *
        have hln : (r ++ [b]).length = r.length + 1 := by simp
        have h0 : (0 : Int) < (((r ++ [b]).length : Nat) : Int) := by rw [hln]; omega
        have hw : IntKind.wrap .i64 ((((r ++ [b]).length : Nat) : Int) - 1) = ((r.length : Nat) : Int) := by rw [hln, wrap64 (by omega) (by omega)]; omega
        have hg : idx (r ++ [b]) ((r.length : Nat) : Int) = some b := by rw [idx_nat]; simp
        have hsb : sub (r ++ [b]) (0 : Int) ((r.length : Nat) : Int) = some r := by
          have := sub_nat (l := r ++ [b]) (a := 0) (b := r.length) (by omega) (by simp)
          simpa using this
        rw [loopC_step, hB, List.reverse_append, List.reverse_singleton, List.singleton_append, List.dropWhile_cons]
        simp only [h0, decide_true, cond_true, hw, hg, Option.bind_some, rblank_eq]
        cases hb : blkB b with
        | true =>
          simp only [cond_true, hsb, Option.bind_some, if_true]
          exact ih r (by omega) (by omega)
        | false =>
          simp
  have e1 := l1 _ (fun _ => rfl) s
  rw [e1]
  simp only [Option.bind_some]
  have e2 := l2 _ (fun _ => rfl) s.length (s.dropWhile (fun b => blkB b)) ((List.dropWhile_sublist _).length_le) hs
  rw [e2]
  simp only [Option.bind_some]
  unfold Lib.trimS Lib.trimLeftS Lib.trimRightS
  simp only [cs_blk]
  rw [trim_comm]
theorem control_eq (r : Int) (h : 0 ≤ r) : folioref02_Control r = some (ctlB r) := by
  unfold folioref02_Control ctlB
  by_cases h1 : r < 32
  · simp [h, h1]
  · by_cases h2 : 127 ≤ r
    · simp [h, h1, h2]
    · simp [h, h1, h2]
theorem dec9 (n b0 b1 b2 b3 : Nat) : Lib.decodeN n b0 9 b2 b3 = Lib.decodeN n b0 32 b2 b3 ∧ Lib.decodeN n b0 b1 9 b3 = Lib.decodeN n b0 b1 32 b3 ∧ Lib.decodeN n b0 b1 b2 9 = Lib.decodeN n b0 b1 b2 32 := by
  unfold Lib.decodeN
  refine ⟨?_, ?_, ?_⟩
  · simp
  · simp
  · simp
theorem untab_dec (b : UInt8) (r : Bs) (hb : b ≠ 9) : Lib.decodeL (untab (b :: r)) = Lib.decodeL (b :: r) := by
  rw [Lib.decodeL_N, Lib.decodeL_N]
  have hg : ∀ i, ((untab (b :: r)).getD i 0) = (if (b :: r).getD i 0 = 9 then 32 else (b :: r).getD i 0) := by
    intro i
    unfold untab
    rw [List.getD_eq_getElem?_getD, List.getD_eq_getElem?_getD, List.getElem?_map]
    cases (b :: r)[i]? <;> simp
  have hl : (untab (b :: r)).length = (b :: r).length := untab_len _
  have h0 : (untab (b :: r)).getD 0 0 = b := by rw [hg]; simp [hb]
  rw [hl, h0, hg 1, hg 2, hg 3]
  have key : ∀ x : UInt8, (if x = 9 then (32 : UInt8) else x).toNat = if x.toNat = 9 then 32 else x.toNat := by
    intro x
    by_cases h : x = 9
    · subst h; rfl
    · have : x.toNat ≠ 9 := fun e => h (UInt8.toNat_inj.1 e)
      rw [if_neg h, if_neg this]
  rw [key, key, key]
  show Lib.decodeN _ b.toNat _ _ _ = Lib.decodeN _ b.toNat _ _ _
  generalize ((b :: r).getD 1 0).toNat = x1
  generalize ((b :: r).getD 2 0).toNat = x2
  generalize ((b :: r).getD 3 0).toNat = x3
  have d := fun n b0 b1 b2 b3 => dec9 n b0 b1 b2 b3
  by_cases h1 : x1 = 9 <;> by_cases h2 : x2 = 9 <;> by_cases h3 : x3 = 9 <;> simp only [h1, h2, h3, if_true, if_false, (d _ _ 0 _ _).1, (d _ _ _ 0 _).2.1, (d _ _ _ _ 0).2.2]
def badC (c : Chr) : Bool := c.2.2.2.1 || (decide (c.1 ≠ 9) && ctlB c.1)
theorem badC_good (s : Bs) (p : Nat) (hp : p < s.length) : badC (chr_ s p) = !(goodL ((untab s).drop p)) := by
  have hd : (untab s).drop p = untab (s.drop p) := by unfold untab; rw [List.map_drop]
  rw [hd, List.drop_eq_getElem_cons hp]
  unfold badC chr_
  rw [List.drop_eq_getElem_cons hp]
  by_cases h9 : s[p] = 9
  · rw [h9]
    have e1 : Lib.decodeL (9 :: s.drop (p + 1)) = (9, 1) := Lib.decodeL_ascii 9 _ (by decide)
    have e2 : untab (9 :: s.drop (p + 1)) = 32 :: untab (s.drop (p + 1)) := rfl
    have e3 : Lib.decodeL (32 :: untab (s.drop (p + 1))) = (32, 1) := Lib.decodeL_ascii 32 _ (by decide)
    rw [e2]
    unfold goodL
    rw [e1, e3]
    rfl
  · have e1 := untab_dec s[p] (s.drop (p + 1)) h9
    unfold goodL
    rw [e1]
    have hne : (Lib.decodeL (s[p] :: s.drop (p + 1))).1 ≠ 9 := by
      intro h
      have h' := Lib.decodeL_N (s[p] :: s.drop (p + 1))
      rcases Lib.decodeN_shape (s[p] :: s.drop (p + 1)).length ((s[p] :: s.drop (p + 1)).getD 0 0).toNat ((s[p] :: s.drop (p + 1)).getD 1 0).toNat ((s[p] :: s.drop (p + 1)).getD 2 0).toNat ((s[p] :: s.drop (p + 1)).getD 3 0).toNat with ⟨c, e⟩ | ⟨_, _, _, cv, e⟩ | ⟨_, _, _, _, cv, _, e⟩ | ⟨_, _, _, _, _, cv, _, e⟩ | e
      · rw [h', e] at h
        have h : s[p].toNat = 9 := h
        exact h9 (UInt8.toNat_inj.1 h)
      · rw [h', e] at h; simp only at h; omega
      · rw [h', e] at h; simp only at h; omega
      · rw [h', e] at h; simp only at h; omega
      · rw [h', e] at h; simp only at h; omega
    have hne' : ¬ (((Lib.decodeL (s[p] :: s.drop (p + 1))).1 : Nat) : Int) = 9 := by omega
    simp only [ne_eq, hne', not_false_eq_true, decide_true, Bool.true_and]
    cases ctlB (((Lib.decodeL (s[p] :: s.drop (p + 1))).1 : Nat) : Int) <;> simp
theorem plain_find (s : Bs) : ∀ (f p : Nat), s.length ≤ p + f → plainF ⟨(untab s).toArray⟩ f p = match (chS s f p).find? badC with | some c => (c.2.1, false) | none => (0, true)
  | 0, p, _ => rfl
  | f + 1, p, h => by
    have hsz : (⟨(untab s).toArray⟩ : ByteArray).size = s.length := (Eng.str_size (untab s)).trans (untab_len s)
    unfold plainF
    by_cases hp : p < s.length
    · have hp2 : p < (untab s).length := by rw [untab_len]; exact hp
      rw [if_pos (by rw [hsz]; exact hp), good_drop (untab s) p hp2, ch_cons hp, List.find?_cons, badC_good s p hp]
      have hw : (Utf8.decode ⟨(untab s).toArray⟩ p).2 = (Lib.decodeL (s.drop p)).2 := by
        rw [decode_drop]
        have hd : (untab s).drop p = untab (s.drop p) := by unfold untab; rw [List.map_drop]
        rw [hd, List.drop_eq_getElem_cons hp]
        by_cases h9 : s[p] = 9
        · rw [h9]
          have e1 : Lib.decodeL (9 :: s.drop (p + 1)) = (9, 1) := Lib.decodeL_ascii 9 _ (by decide)
          have e2 : untab (9 :: s.drop (p + 1)) = 32 :: untab (s.drop (p + 1)) := rfl
          have e3 : Lib.decodeL (32 :: untab (s.drop (p + 1))) = (32, 1) := Lib.decodeL_ascii 32 _ (by decide)
          rw [e2, e1, e3]
        · rw [untab_dec _ _ h9]
      cases hg : goodL ((untab s).drop p) with
      | true =>
        simp only [Bool.not_true, Bool.false_eq_true, if_false]
        rw [hw]
        exact plain_find s f _ (by have := Lib.decodeL_width (s.drop p); omega)
      | false =>
        simp only [Bool.not_false, if_true]
        rfl
    · rw [if_neg (by rw [hsz]; exact hp), ch_nil hp]
      rfl
theorem bad_eq (s : Bs) (hs : s.length ≤ 100000) : folioref04_bad s = some (if (plainS (untab s)).2 then (0, false) else ((plainS (untab s)).1, true)) := by
  unfold folioref04_bad
  rw [chars_eq s hs]
  simp only [Option.bind_some]
  have hpl : plainS (untab s) = match (chS s s.length 0).find? badC with | some c => (c.2.1, false) | none => (0, true) := by
    unfold plainS
    rw [untab_len]
    exact plain_find s s.length 0 (by omega)
  have hF := ch_get s s.length 0 (by omega)
  have hFl := ch_len s s.length 0
  rw [hpl]
  generalize chS s s.length 0 = F at *
  refine bind_of (v := ((F.drop 0).find? badC).elim (.inl ()) (fun c => .inr (c.2.1, true))) (find_loop (F := F) (κ := Unit ⊕ (Int × Bool)) badC (fun c => .inr (c.2.1, true)) (.inl ()) (fun i x hx => ?_) ?_ F.length 0 (by omega)) ?_
  · have hi := (List.getElem?_eq_some_iff.1 hx).1
    have h0 : (i : Int) < ((F.length : Nat) : Int) := by omega
    have hg : idx F (i : Int) = some x := by rw [idx_nat]; exact hx
    have hw : IntKind.wrap .i64 ((i : Int) + 1) = ((i + 1 : Nat) : Int) := wrapS (by omega)
    obtain ⟨⟨q, hq, _⟩, _⟩ := hF i x hx
    have hr : 0 ≤ x.1 := by rw [hq]; simp [chr_]
    simp only [h0, decide_true, cond_true, hg, Option.bind_some, control_eq _ hr, hw]
    unfold badC
    by_cases h9 : x.1 = 9
    · cases x.2.2.2.1 <;> simp [h9]
    · cases x.2.2.2.1 <;> cases ctlB x.1 <;> simp [h9]
  · have h0 : ¬ ((F.length : Nat) : Int) < ((F.length : Nat) : Int) := by omega
    simp only [h0, decide_false, cond_false]
  · rw [List.drop_zero]
    cases F.find? badC <;> rfl
/-- behind a sign of one byte -/
theorem find_at (l : Bs) (i : Nat) (hi : i < l.length) (h92 : l[i] = 92) : ∀ (f p : Nat), l.length ≤ p + f → p ≤ i → (chS l f p).find? (fun c => decide (c.2.1 = ((i + 1 : Nat) : Int))) = if i + 1 < l.length then some (chr_ l (i + 1)) else none
  | 0, p, h1, h2 => by omega
  | f + 1, p, h1, h2 => by
    have hp : p < l.length := by omega
    have hne : ¬ ((p : Nat) : Int) = ((i + 1 : Nat) : Int) := by omega
    rw [ch_cons hp, List.find?_cons]
    have e0 : decide ((chr_ l p).2.1 = ((i + 1 : Nat) : Int)) = false := by simp only [chr_]; exact decide_eq_false hne
    rw [e0]
    simp only
    by_cases he : p = i
    · subst he
      have hd : l.drop p = 92 :: l.drop (p + 1) := by rw [List.drop_eq_getElem_cons hp, h92]
      have hw : (Lib.decodeL (l.drop p)).2 = 1 := by rw [hd, Lib.decodeL_ascii 92 _ (by decide)]
      rw [hw]
      by_cases hq : p + 1 < l.length
      · cases f with
        | zero => omega
        | succ f =>
          rw [ch_cons hq, List.find?_cons, if_pos hq]
          simp [chr_]
      · rw [ch_nil hq, if_neg hq]
        rfl
    · have hle : p + (Lib.decodeL (l.drop p)).2 ≤ i := by
        rcases Nat.lt_or_ge i (p + (Lib.decodeL (l.drop p)).2) with hc | hc
        · exfalso
          have hd := List.drop_eq_getElem_cons hp
          have hcd := conts_dull l[p] (l.drop (p + 1))
          rw [← hd] at hcd
          have hm : l[i] ∈ (l.drop (p + 1)).take ((Lib.decodeL (l.drop p)).2 - 1) := by
            rw [List.mem_take_iff_getElem]
            refine ⟨i - (p + 1), by rw [List.length_drop]; omega, ?_⟩
            rw [List.getElem_drop]
            congr 1; omega
          have := hcd _ hm
          rw [h92] at this
          exact absurd this (by decide)
        · exact hc
      exact find_at l i hi h92 f _ (by have := Lib.decodeL_width (l.drop p); omega) hle
theorem behind_eq (l : Bs) (i : Nat) (hl : l.length ≤ 100000) (hi : i < l.length) (h92 : l[i] = 92) : folioref04_behind l ((i + 1 : Nat) : Int) = some (if i + 1 < l.length then chrB (l.drop (i + 1)) else []) := by
  unfold folioref04_behind
  rw [chars_eq l hl]
  simp only [Option.bind_some]
  have hfa := find_at l i hi h92 l.length 0 (by omega) (by omega)
  have hF := ch_get l l.length 0 (by omega)
  have hFl := ch_len l l.length 0
  generalize chS l l.length 0 = F at *
  refine bind_of (v := ((F.drop 0).find? (fun c : Chr => decide (c.2.1 = ((i + 1 : Nat) : Int)))).elim (.inl ()) (fun c : Chr => .inr ((l.drop (i + 1)).take c.2.2.1.toNat))) (find_loop (F := F) (κ := Unit ⊕ Bs) (fun c : Chr => decide (c.2.1 = ((i + 1 : Nat) : Int))) (fun c : Chr => .inr ((l.drop (i + 1)).take c.2.2.1.toNat)) (.inl ()) (fun j x hx => ?_) ?_ F.length 0 (by omega)) ?_
  · have hj := (List.getElem?_eq_some_iff.1 hx).1
    have h0 : (j : Int) < ((F.length : Nat) : Int) := by omega
    have hg : idx F (j : Int) = some x := by rw [idx_nat]; exact hx
    have hw : IntKind.wrap .i64 ((j : Int) + 1) = ((j + 1 : Nat) : Int) := wrapS (by omega)
    obtain ⟨⟨q, hq, hql⟩, _⟩ := hF j x hx
    have hfit := dec_fit l q hql
    simp only [h0, decide_true, cond_true, hg, Option.bind_some, hw]
    by_cases he : x.2.1 = ((i + 1 : Nat) : Int)
    · have e1 : x.2.1 = (q : Int) := by rw [hq]; rfl
      have e2 : x.2.2.1 = ((Lib.decodeL (l.drop q)).2 : Int) := by rw [hq]; rfl
      have hqi : q = i + 1 := by omega
      subst hqi
      have hw2 : IntKind.wrap .i64 (((i + 1 : Nat) : Int) + x.2.2.1) = ((i + 1 + (Lib.decodeL (l.drop (i + 1))).2 : Nat) : Int) := by rw [e2, wrap64 (by omega) (by omega)]; omega
      have he' : (x.2.1 = ((i + 1 : Nat) : Int)) = True := eq_true he
      simp only [he', decide_true, cond_true, hw2, if_true]
      rw [sub_len hfit, e2]
      simp
    · simp only [he, decide_false, cond_false, Bool.false_eq_true, if_false]
  · have h0 : ¬ ((F.length : Nat) : Int) < ((F.length : Nat) : Int) := by omega
    simp only [h0, decide_false, cond_false]
  · rw [List.drop_zero, hfa]
    by_cases h1 : i + 1 < l.length
    · rw [if_pos h1, if_pos h1]
      simp [onSum, chr_, chrB]
    · rw [if_neg h1, if_neg h1]
      rfl
end Go.Fn
