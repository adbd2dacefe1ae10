import Derived.Test.YtkfcinmgebhbhaaDoorQFn
open Go Go.Lf
set_option maxRecDepth 10000
namespace Go.Fn
@[reducible] def strconv_Itoa_c (_ : Nat) (a0 : Int) := Go.Fn.strconv_Itoa a0
theorem strconv_Itoa_le (n : Nat) (a0 : Int) : Go.Lf.Le (strconv_Itoa_c n a0) (strconv_Itoa a0) := Go.Lf.Le.refl
@[reducible] def strconv_Atoi_c (_ : Nat) (a0 : List UInt8) := Go.Fn.strconv_Atoi a0
theorem strconv_Atoi_le (n : Nat) (a0 : List UInt8) : Go.Lf.Le (strconv_Atoi_c n a0) (strconv_Atoi a0) := Go.Lf.Le.refl
@[reducible] def strings_Cut_c (_ : Nat) (a0 : List UInt8) (a1 : List UInt8) := Go.Fn.strings_Cut a0 a1
theorem strings_Cut_le (n : Nat) (a0 : List UInt8) (a1 : List UInt8) : Go.Lf.Le (strings_Cut_c n a0 a1) (strings_Cut a0 a1) := Go.Lf.Le.refl
@[reducible] def strings_FieldsFunc_c (_ : Nat) (a0 : List UInt8) (a1 : Unit) := Go.Fn.strings_FieldsFunc a0 a1
theorem strings_FieldsFunc_le (n : Nat) (a0 : List UInt8) (a1 : Unit) : Go.Lf.Le (strings_FieldsFunc_c n a0 a1) (strings_FieldsFunc a0 a1) := Go.Lf.Le.refl
noncomputable def style_Then_c (n : Nat) (a0 : (Int) × ((Int) × ((Int) × (Unit)))) (a1 : (Int) × ((Int) × ((Int) × (Unit)))) : Option ((Int) × ((Int) × ((Int) × (Unit)))) :=
 (bif (decide ((a1.2.2.1 : Int) = (-(1 : Int)))) then some (((0 : Int), ((0 : Int), ((0 : Int), ()))), ((Go.Lf.bits .or .i64 (Go.Lf.bits .andNot .i64 a0.1 a1.2.1) a1.1), ((Go.Lf.bits .or .i64 (Go.Lf.bits .andNot .i64 a0.2.1 a1.1) a1.2.1), (a0.2.2.1, ()))))
   else some (((0 : Int), ((0 : Int), ((0 : Int), ()))), ((Go.Lf.bits .or .i64 (Go.Lf.bits .andNot .i64 a0.1 a1.2.1) a1.1), ((Go.Lf.bits .or .i64 (Go.Lf.bits .andNot .i64 a0.2.1 a1.1) a1.2.1), (a1.2.2.1, ()))))).bind fun r1 =>
 some r1.2
theorem style_Then_le (n : Nat) (a0 : (Int) × ((Int) × ((Int) × (Unit)))) (a1 : (Int) × ((Int) × ((Int) × (Unit)))) : Go.Lf.Le (style_Then_c n a0 a1) (style_Then a0 a1) := by
  unfold style_Then_c style_Then
  repeat' first
    | with_reducible refine Go.Lf.Le.bind ?_ (fun _ => ?_)
    | with_reducible refine Go.Lf.Le.cond ?_ ?_
    | with_reducible refine Go.Lf.Le.loop (fun _ => ?_)
    | with_reducible refine Go.Lf.Le.onSum (fun _ => ?_) (fun _ => ?_)
    | with_reducible exact Go.Lf.Le.refl
noncomputable def folioref06_Then_c (n : Nat) (a0 : (Int) × ((Int) × ((Int) × (Unit)))) (a1 : (Int) × ((Int) × ((Int) × (Unit)))) : Option ((Int) × ((Int) × ((Int) × (Unit)))) :=
 (bif (decide ((a1.2.2.1 : Int) ≠ (-(1 : Int)))) then some (((0 : Int), ((0 : Int), ((0 : Int), ()))), ((Go.Lf.bits .or .i64 (Go.Lf.bits .andNot .i64 a0.1 a1.2.1) a1.1), ((Go.Lf.bits .or .i64 (Go.Lf.bits .andNot .i64 a0.2.1 a1.1) a1.2.1), (a1.2.2.1, ()))))
   else some (((0 : Int), ((0 : Int), ((0 : Int), ()))), ((Go.Lf.bits .or .i64 (Go.Lf.bits .andNot .i64 a0.1 a1.2.1) a1.1), ((Go.Lf.bits .or .i64 (Go.Lf.bits .andNot .i64 a0.2.1 a1.1) a1.2.1), (a0.2.2.1, ()))))).bind fun r1 =>
 some r1.2
theorem folioref06_Then_le (n : Nat) (a0 : (Int) × ((Int) × ((Int) × (Unit)))) (a1 : (Int) × ((Int) × ((Int) × (Unit)))) : Go.Lf.Le (folioref06_Then_c n a0 a1) (folioref06_Then a0 a1) := by
  unfold folioref06_Then_c folioref06_Then
  repeat' first
    | with_reducible refine Go.Lf.Le.bind ?_ (fun _ => ?_)
    | with_reducible refine Go.Lf.Le.cond ?_ ?_
    | with_reducible refine Go.Lf.Le.loop (fun _ => ?_)
    | with_reducible refine Go.Lf.Le.onSum (fun _ => ?_) (fun _ => ?_)
    | with_reducible exact Go.Lf.Le.refl
noncomputable def foliolaw06_same_c (n : Nat) (a0 : (Int) × ((Int) × ((Int) × (Unit)))) (a1 : (Int) × ((Int) × ((Int) × (Unit)))) : Option (Bool) :=
 (bif (decide ((a0.1 : Int) = a1.1)) then bif (decide ((a0.2.1 : Int) = a1.2.1)) then some (decide ((a0.2.2.1 : Int) = a1.2.2.1))
   else some false
   else some false).bind fun r1 =>
 some r1
theorem foliolaw06_same_le (n : Nat) (a0 : (Int) × ((Int) × ((Int) × (Unit)))) (a1 : (Int) × ((Int) × ((Int) × (Unit)))) : Go.Lf.Le (foliolaw06_same_c n a0 a1) (foliolaw06_same a0 a1) := by
  unfold foliolaw06_same_c foliolaw06_same
  repeat' first
    | with_reducible refine Go.Lf.Le.bind ?_ (fun _ => ?_)
    | with_reducible refine Go.Lf.Le.cond ?_ ?_
    | with_reducible refine Go.Lf.Le.loop (fun _ => ?_)
    | with_reducible refine Go.Lf.Le.onSum (fun _ => ?_) (fun _ => ?_)
    | with_reducible exact Go.Lf.Le.refl
noncomputable def style_Apply_c (n : Nat) (a0 : (Int) × ((Int) × (Unit))) (a1 : (Int) × ((Int) × ((Int) × (Unit)))) : Option ((Int) × ((Int) × (Unit))) :=
 (bif (decide ((a1.2.2.1 : Int) ≠ (-(1 : Int)))) then some (((0 : Int), ((0 : Int), ())), ((Go.Lf.bits .andNot .i64 (Go.Lf.bits .or .i64 a0.1 a1.1) a1.2.1), (a1.2.2.1, a0.2.2)))
   else some (((0 : Int), ((0 : Int), ())), ((Go.Lf.bits .andNot .i64 (Go.Lf.bits .or .i64 a0.1 a1.1) a1.2.1), a0.2))).bind fun r1 =>
 some r1.2
theorem style_Apply_le (n : Nat) (a0 : (Int) × ((Int) × (Unit))) (a1 : (Int) × ((Int) × ((Int) × (Unit)))) : Go.Lf.Le (style_Apply_c n a0 a1) (style_Apply a0 a1) := by
  unfold style_Apply_c style_Apply
  repeat' first
    | with_reducible refine Go.Lf.Le.bind ?_ (fun _ => ?_)
    | with_reducible refine Go.Lf.Le.cond ?_ ?_
    | with_reducible refine Go.Lf.Le.loop (fun _ => ?_)
    | with_reducible refine Go.Lf.Le.onSum (fun _ => ?_) (fun _ => ?_)
    | with_reducible exact Go.Lf.Le.refl
noncomputable def folioref06_Apply_c (n : Nat) (a0 : (Int) × ((Int) × (Unit))) (a1 : (Int) × ((Int) × ((Int) × (Unit)))) : Option ((Int) × ((Int) × (Unit))) :=
 (bif (decide ((a1.2.2.1 : Int) ≠ (-(1 : Int)))) then some (((0 : Int), ((0 : Int), ())), ((Go.Lf.bits .andNot .i64 (Go.Lf.bits .or .i64 a0.1 a1.1) a1.2.1), (a1.2.2.1, a0.2.2)))
   else some (((0 : Int), ((0 : Int), ())), ((Go.Lf.bits .andNot .i64 (Go.Lf.bits .or .i64 a0.1 a1.1) a1.2.1), a0.2))).bind fun r1 =>
 some r1.2
theorem folioref06_Apply_le (n : Nat) (a0 : (Int) × ((Int) × (Unit))) (a1 : (Int) × ((Int) × ((Int) × (Unit)))) : Go.Lf.Le (folioref06_Apply_c n a0 a1) (folioref06_Apply a0 a1) := by
  unfold folioref06_Apply_c folioref06_Apply
  repeat' first
    | with_reducible refine Go.Lf.Le.bind ?_ (fun _ => ?_)
    | with_reducible refine Go.Lf.Le.cond ?_ ?_
    | with_reducible refine Go.Lf.Le.loop (fun _ => ?_)
    | with_reducible refine Go.Lf.Le.onSum (fun _ => ?_) (fun _ => ?_)
    | with_reducible exact Go.Lf.Le.refl
noncomputable def foliolaw06_look_c (n : Nat) (a0 : (Int) × ((Int) × (Unit))) (a1 : (Int) × ((Int) × (Unit))) : Option (Bool) :=
 (bif (decide ((a0.1 : Int) = a1.1)) then some (decide ((a0.2.1 : Int) = a1.2.1))
   else some false).bind fun r1 =>
 some r1
theorem foliolaw06_look_le (n : Nat) (a0 : (Int) × ((Int) × (Unit))) (a1 : (Int) × ((Int) × (Unit))) : Go.Lf.Le (foliolaw06_look_c n a0 a1) (foliolaw06_look a0 a1) := by
  unfold foliolaw06_look_c foliolaw06_look
  repeat' first
    | with_reducible refine Go.Lf.Le.bind ?_ (fun _ => ?_)
    | with_reducible refine Go.Lf.Le.cond ?_ ?_
    | with_reducible refine Go.Lf.Le.loop (fun _ => ?_)
    | with_reducible refine Go.Lf.Le.onSum (fun _ => ?_) (fun _ => ?_)
    | with_reducible exact Go.Lf.Le.refl
noncomputable def folioref06_Base_c (n : Nat)  : Option (List ((List (UInt8)) × ((List (UInt8)) × (((Int) × ((Int) × ((Int) × (Unit)))) × (Unit))))) :=
 some ((((98 : UInt8) :: ([] : List (UInt8))), (([] : List (UInt8)), (((1 : Int), ((0 : Int), ((-(1 : Int)), ()))), ()))) :: ((((105 : UInt8) :: ([] : List (UInt8))), (([] : List (UInt8)), (((2 : Int), ((0 : Int), ((-(1 : Int)), ()))), ()))) :: ((((117 : UInt8) :: ([] : List (UInt8))), (([] : List (UInt8)), (((4 : Int), ((0 : Int), ((-(1 : Int)), ()))), ()))) :: ((((115 : UInt8) :: ([] : List (UInt8))), (([] : List (UInt8)), (((8 : Int), ((0 : Int), ((-(1 : Int)), ()))), ()))) :: ((((109 : UInt8) :: ([] : List (UInt8))), (([] : List (UInt8)), (((16 : Int), ((0 : Int), ((-(1 : Int)), ()))), ()))) :: ((((104 : UInt8) :: ([] : List (UInt8))), (([] : List (UInt8)), (((5 : Int), ((0 : Int), ((-(1 : Int)), ()))), ()))) :: ([] : List ((List (UInt8)) × ((List (UInt8)) × (((Int) × ((Int) × ((Int) × (Unit)))) × (Unit)))))))))))
theorem folioref06_Base_le (n : Nat)  : Go.Lf.Le (folioref06_Base_c n ) (folioref06_Base ) := by
  unfold folioref06_Base_c folioref06_Base
  repeat' first
    | with_reducible refine Go.Lf.Le.bind ?_ (fun _ => ?_)
    | with_reducible refine Go.Lf.Le.cond ?_ ?_
    | with_reducible refine Go.Lf.Le.loop (fun _ => ?_)
    | with_reducible refine Go.Lf.Le.onSum (fun _ => ?_) (fun _ => ?_)
    | with_reducible exact Go.Lf.Le.refl
noncomputable def style_named_c (n : Nat) (a0 : List (UInt8)) : Option (Bool) :=
 (bif (!(decide ((((List.length a0) : Nat) : Int) < (1 : Int)))) then some (decide ((12 : Int) < (((List.length a0) : Nat) : Int)))
   else some true).bind fun r1 =>
 bif r1 then some false
 else (Go.Lf.loopF n (σ := Int) (κ := (Unit) ⊕ (Bool)) (fun z2 =>
     bif (decide (z2 < (((List.length a0) : Nat) : Int))) then (((Go.Lf.idx a0 z2)).bind fun r3 =>
       bif (!(decide ((((UInt8.toNat r3) : Nat) : Int) < (97 : Int)))) then ((Go.Lf.idx a0 z2)).bind fun r4 =>
       some (decide ((122 : Int) < (((UInt8.toNat r4) : Nat) : Int)))
       else some true).bind fun r5 =>
     bif r5 then some (.inr (.inr false))
     else some (.inl (Go.IntKind.wrap .i64 (z2 + (1 : Int))))
     else some (.inr (.inl ()))) (0 : Int) : Option ((Unit) ⊕ (Bool))).bind fun r6 =>
 Go.Lf.onSum r6 (fun a7 =>
 some true) (fun b8 =>
 some b8)
theorem style_named_le (n : Nat) (a0 : List (UInt8)) : Go.Lf.Le (style_named_c n a0) (style_named a0) := by
  unfold style_named_c style_named
  repeat' first
    | with_reducible refine Go.Lf.Le.bind ?_ (fun _ => ?_)
    | with_reducible refine Go.Lf.Le.cond ?_ ?_
    | with_reducible refine Go.Lf.Le.loop (fun _ => ?_)
    | with_reducible refine Go.Lf.Le.onSum (fun _ => ?_) (fun _ => ?_)
    | with_reducible exact Go.Lf.Le.refl
noncomputable def style_Find_c (n : Nat) (a0 : List ((List (UInt8)) × ((List (UInt8)) × (((Int) × ((Int) × ((Int) × (Unit)))) × (Unit))))) (a1 : List (UInt8)) : Option ((Int) × (Bool)) :=
 (Go.Lf.loopF n (σ := Int) (κ := (Unit) ⊕ ((Int) × (Bool))) (fun z1 =>
     bif (decide (z1 < (((List.length a0) : Nat) : Int))) then ((Go.Lf.idx a0 z1)).bind fun r2 =>
     bif (decide ((r2.1 : List (UInt8)) = a1)) then some (.inr (.inr (z1, true)))
     else some (.inl (Go.IntKind.wrap .i64 (z1 + (1 : Int))))
     else some (.inr (.inl ()))) (0 : Int) : Option ((Unit) ⊕ ((Int) × (Bool)))).bind fun r3 =>
 Go.Lf.onSum r3 (fun a4 =>
 some ((0 : Int), false)) (fun b5 =>
 some (b5.1, b5.2))
theorem style_Find_le (n : Nat) (a0 : List ((List (UInt8)) × ((List (UInt8)) × (((Int) × ((Int) × ((Int) × (Unit)))) × (Unit))))) (a1 : List (UInt8)) : Go.Lf.Le (style_Find_c n a0 a1) (style_Find a0 a1) := by
  unfold style_Find_c style_Find
  repeat' first
    | with_reducible refine Go.Lf.Le.bind ?_ (fun _ => ?_)
    | with_reducible refine Go.Lf.Le.cond ?_ ?_
    | with_reducible refine Go.Lf.Le.loop (fun _ => ?_)
    | with_reducible refine Go.Lf.Le.onSum (fun _ => ?_) (fun _ => ?_)
    | with_reducible exact Go.Lf.Le.refl
noncomputable def style_change_c (n : Nat) (a0 : (Int) × ((Int) × ((Int) × (Unit)))) : Option (Int) :=
 (bif (!(decide (((Go.Lf.bits .andNot .i64 a0.1 (127 : Int)) : Int) ≠ (0 : Int)))) then bif (!(decide (((Go.Lf.bits .andNot .i64 a0.2.1 (127 : Int)) : Int) ≠ (0 : Int)))) then bif (!(decide (a0.1 < (0 : Int)))) then bif (!(decide (a0.2.1 < (0 : Int)))) then some ((decide (((Go.Lf.bits .and .i64 a0.1 a0.2.1) : Int) ≠ (0 : Int))), a0)
   else some (true, a0)
   else some (true, a0)
   else some (true, a0)
   else some (true, a0)).bind fun r1 =>
 bif r1.1 then some (62 : Int)
 else (bif (!(decide (r1.2.2.2.1 < (-(1 : Int))))) then some (decide ((15 : Int) < r1.2.2.2.1))
   else some true).bind fun r2 =>
 bif r2 then some (63 : Int)
 else some (0 : Int)
theorem style_change_le (n : Nat) (a0 : (Int) × ((Int) × ((Int) × (Unit)))) : Go.Lf.Le (style_change_c n a0) (style_change a0) := by
  unfold style_change_c style_change
  repeat' first
    | with_reducible refine Go.Lf.Le.bind ?_ (fun _ => ?_)
    | with_reducible refine Go.Lf.Le.cond ?_ ?_
    | with_reducible refine Go.Lf.Le.loop (fun _ => ?_)
    | with_reducible refine Go.Lf.Le.onSum (fun _ => ?_) (fun _ => ?_)
    | with_reducible exact Go.Lf.Le.refl
noncomputable def style_ends_c (n : Nat) (a0 : List ((List (UInt8)) × ((List (UInt8)) × (((Int) × ((Int) × ((Int) × (Unit)))) × (Unit))))) (a1 : Int) : Option (Bool) :=
 (Go.Lf.loopF n (σ := (Int) × ((Int) × (Bool))) (κ := Bool) (fun z1 =>
     bif (decide (z1.1 < (8 : Int))) then ((Go.Lf.idx a0 z1.2.1)).bind fun r2 =>
     ((Go.Fn.style_Find_c n a0 r2.2.1)).bind fun r3 =>
     (((Go.Lf.idx a0 z1.2.1)).bind fun r4 =>
       bif (!(decide ((r4.2.1 : List (UInt8)) = ([] : List (UInt8))))) then some (!r3.2)
       else some true).bind fun r5 =>
     bif r5 then some (.inr true)
     else some (.inl ((Go.IntKind.wrap .i64 (z1.1 + (1 : Int))), (r3.1, z1.2.2)))
     else some (.inr z1.2.2)) ((0 : Int), (a1, false)) : Option (Bool)).bind fun r6 =>
 some r6
theorem style_ends_le (n : Nat) (a0 : List ((List (UInt8)) × ((List (UInt8)) × (((Int) × ((Int) × ((Int) × (Unit)))) × (Unit))))) (a1 : Int) : Go.Lf.Le (style_ends_c n a0 a1) (style_ends a0 a1) := by
  unfold style_ends_c style_ends
  repeat' first
    | with_reducible exact Go.Fn.style_Find_le n _ _
    | with_reducible refine Go.Lf.Le.bind ?_ (fun _ => ?_)
    | with_reducible refine Go.Lf.Le.cond ?_ ?_
    | with_reducible refine Go.Lf.Le.loop (fun _ => ?_)
    | with_reducible refine Go.Lf.Le.onSum (fun _ => ?_) (fun _ => ?_)
    | with_reducible exact Go.Lf.Le.refl
noncomputable def style_Check_c (n : Nat) (a0 : List ((List (UInt8)) × ((List (UInt8)) × (((Int) × ((Int) × ((Int) × (Unit)))) × (Unit))))) : Option ((Int) × (Int)) :=
 bif (decide ((64 : Int) < (((List.length a0) : Nat) : Int))) then some ((0 : Int), (2 : Int))
 else (Go.Lf.loopF n (σ := Int) (κ := (Unit) ⊕ ((Int) × (Int))) (fun z1 =>
     bif (decide (z1 < (((List.length a0) : Nat) : Int))) then ((Go.Lf.idx a0 z1)).bind fun r2 =>
     ((Go.Fn.style_named_c n r2.1)).bind fun r3 =>
     bif (!r3) then some (.inr (.inr (z1, (60 : Int))))
     else ((Go.Lf.sub a0 (0 : Int) z1)).bind fun r4 =>
     ((Go.Fn.style_Find_c n r4 r2.1)).bind fun r5 =>
     bif r5.2 then some (.inr (.inr (z1, (61 : Int))))
     else ((Go.Fn.style_change_c n r2.2.2.1)).bind fun r6 =>
     bif (decide ((r6 : Int) ≠ (0 : Int))) then some (.inr (.inr (z1, r6)))
     else some (.inl (Go.IntKind.wrap .i64 (z1 + (1 : Int))))
     else some (.inr (.inl ()))) (0 : Int) : Option ((Unit) ⊕ ((Int) × (Int)))).bind fun r7 =>
 Go.Lf.onSum r7 (fun a8 =>
 (Go.Lf.loopF n (σ := Int) (κ := (Unit) ⊕ ((Int) × (Int))) (fun z9 =>
     bif (decide (z9 < (((List.length a0) : Nat) : Int))) then (((Go.Lf.idx a0 z9)).bind fun r10 =>
       bif (decide ((r10.2.1 : List (UInt8)) = ([] : List (UInt8)))) then some (.inl ())
       else ((Go.Fn.style_Find_c n a0 r10.2.1)).bind fun r11 =>
       bif (!r11.2) then some (.inr (z9, (64 : Int)))
       else ((Go.Fn.style_ends_c n a0 z9)).bind fun r12 =>
       bif (!r12) then some (.inr (z9, (65 : Int)))
       else some (.inl ()) : Option ((Unit) ⊕ ((Int) × (Int)))).bind fun r13 =>
     Go.Lf.onSum r13 (fun a14 =>
     some (.inl (Go.IntKind.wrap .i64 (z9 + (1 : Int))))) (fun b15 =>
     some (.inr (.inr (b15.1, b15.2))))
     else some (.inr (.inl ()))) (0 : Int) : Option ((Unit) ⊕ ((Int) × (Int)))).bind fun r16 =>
 Go.Lf.onSum r16 (fun a17 =>
 some ((0 : Int), (0 : Int))) (fun b18 =>
 some (b18.1, b18.2))) (fun b19 =>
 some (b19.1, b19.2))
theorem style_Check_le (n : Nat) (a0 : List ((List (UInt8)) × ((List (UInt8)) × (((Int) × ((Int) × ((Int) × (Unit)))) × (Unit))))) : Go.Lf.Le (style_Check_c n a0) (style_Check a0) := by
  unfold style_Check_c style_Check
  repeat' first
    | with_reducible exact Go.Fn.style_Find_le n _ _
    | with_reducible exact Go.Fn.style_change_le n _
    | with_reducible exact Go.Fn.style_ends_le n _ _
    | with_reducible exact Go.Fn.style_named_le n _
    | with_reducible refine Go.Lf.Le.bind ?_ (fun _ => ?_)
    | with_reducible refine Go.Lf.Le.cond ?_ ?_
    | with_reducible refine Go.Lf.Le.loop (fun _ => ?_)
    | with_reducible refine Go.Lf.Le.onSum (fun _ => ?_) (fun _ => ?_)
    | with_reducible exact Go.Lf.Le.refl
noncomputable def style_plain_c (n : Nat)  : Option ((Int) × ((Int) × ((Int) × (Unit)))) :=
 some ((0 : Int), ((0 : Int), ((-(1 : Int)), ())))
theorem style_plain_le (n : Nat)  : Go.Lf.Le (style_plain_c n ) (style_plain ) := by
  unfold style_plain_c style_plain
  repeat' first
    | with_reducible refine Go.Lf.Le.bind ?_ (fun _ => ?_)
    | with_reducible refine Go.Lf.Le.cond ?_ ?_
    | with_reducible refine Go.Lf.Le.loop (fun _ => ?_)
    | with_reducible refine Go.Lf.Le.onSum (fun _ => ?_) (fun _ => ?_)
    | with_reducible exact Go.Lf.Le.refl
noncomputable def style_wholeB_c (n : Nat) (self : (List ((List (UInt8)) × ((List (UInt8)) × (((Int) × ((Int) × ((Int) × (Unit)))) × (Unit))))) × (Int) → Option ((Int) × ((Int) × ((Int) × (Unit))))) (a0 : List ((List (UInt8)) × ((List (UInt8)) × (((Int) × ((Int) × ((Int) × (Unit)))) × (Unit))))) (a1 : Int) : Option ((Int) × ((Int) × ((Int) × (Unit)))) :=
 (Go.Fn.style_plain_c n).bind fun r1 =>
 (((Go.Lf.idx a0 a1)).bind fun r2 =>
   ((Go.Fn.style_Find_c n a0 r2.2.1)).bind fun r3 =>
   (bif r3.2 then ((Go.Lf.idx a0 a1)).bind fun r4 =>
     some ((decide ((r4.2.1 : List (UInt8)) ≠ ([] : List (UInt8)))), (((0 : Int), ((0 : Int), ((0 : Int), ()))), r1))
     else some (false, (((0 : Int), ((0 : Int), ((0 : Int), ()))), r1))).bind fun r5 =>
   bif r5.1 then ((self (a0, r3.1))).bind fun r6 =>
   some (r5.2.1, r6)
   else some (r5.2.1, r5.2.2)).bind fun r7 =>
 ((Go.Lf.idx a0 a1)).bind fun r8 =>
 ((Go.Fn.style_Then_c n r7.2 r8.2.2.1)).bind fun r9 =>
 some r9
noncomputable def style_wholeN_c (n : Nat) : Nat → (List ((List (UInt8)) × ((List (UInt8)) × (((Int) × ((Int) × ((Int) × (Unit)))) × (Unit))))) × (Int) → Option ((Int) × ((Int) × ((Int) × (Unit))))
 | 0 => fun _ => none
 | m + 1 => fun z => style_wholeB_c n (style_wholeN_c n m) z.1 z.2
noncomputable def style_whole_c (n : Nat) (a0 : List ((List (UInt8)) × ((List (UInt8)) × (((Int) × ((Int) × ((Int) × (Unit)))) × (Unit))))) (a1 : Int) : Option ((Int) × ((Int) × ((Int) × (Unit)))) := style_wholeN_c n n (a0, a1)
theorem style_wholeB_le (n : Nat) {self self' : (List ((List (UInt8)) × ((List (UInt8)) × (((Int) × ((Int) × ((Int) × (Unit)))) × (Unit))))) × (Int) → Option ((Int) × ((Int) × ((Int) × (Unit))))} (hs : ∀ z, Go.Lf.Le (self z) (self' z)) (a0 : List ((List (UInt8)) × ((List (UInt8)) × (((Int) × ((Int) × ((Int) × (Unit)))) × (Unit))))) (a1 : Int) : Go.Lf.Le (style_wholeB_c n self a0 a1) (style_wholeB self' a0 a1) := by
  unfold style_wholeB_c style_wholeB
  repeat' first
    | with_reducible exact Go.Fn.style_Find_le n _ _
    | with_reducible exact Go.Fn.style_Then_le n _ _
    | with_reducible exact Go.Fn.style_plain_le n
    | exact hs _
    | with_reducible refine Go.Lf.Le.bind ?_ (fun _ => ?_)
    | with_reducible refine Go.Lf.Le.cond ?_ ?_
    | with_reducible refine Go.Lf.Le.loop (fun _ => ?_)
    | with_reducible refine Go.Lf.Le.onSum (fun _ => ?_) (fun _ => ?_)
    | with_reducible exact Go.Lf.Le.refl
theorem style_wholeB_mono {self self' : (List ((List (UInt8)) × ((List (UInt8)) × (((Int) × ((Int) × ((Int) × (Unit)))) × (Unit))))) × (Int) → Option ((Int) × ((Int) × ((Int) × (Unit))))} (hs : ∀ z, Go.Lf.Le (self z) (self' z)) (a0 : List ((List (UInt8)) × ((List (UInt8)) × (((Int) × ((Int) × ((Int) × (Unit)))) × (Unit))))) (a1 : Int) : Go.Lf.Le (style_wholeB self a0 a1) (style_wholeB self' a0 a1) := by
  unfold style_wholeB
  repeat' first
    | exact hs _
    | with_reducible refine Go.Lf.Le.bind ?_ (fun _ => ?_)
    | with_reducible refine Go.Lf.Le.cond ?_ ?_
    | with_reducible refine Go.Lf.Le.loopC (fun _ => ?_)
    | with_reducible refine Go.Lf.Le.onSum (fun _ => ?_) (fun _ => ?_)
    | with_reducible exact Go.Lf.Le.refl
theorem style_wholeN_mono : ∀ (n : Nat) z, Go.Lf.Le (style_wholeN n z) (style_wholeN (n + 1) z)
 | 0, _ => fun _ h => (by cases h)
 | n + 1, z => style_wholeB_mono (style_wholeN_mono n) z.1 z.2
theorem style_wholeN_le (n : Nat) : ∀ (m : Nat) z, Go.Lf.Le (style_wholeN_c n m z) (style_wholeN m z)
 | 0, _ => fun _ h => (by cases h)
 | m + 1, z => style_wholeB_le n (style_wholeN_le n m) z.1 z.2
theorem style_whole_le (n : Nat) (a0 : List ((List (UInt8)) × ((List (UInt8)) × (((Int) × ((Int) × ((Int) × (Unit)))) × (Unit))))) (a1 : Int) : Go.Lf.Le (style_whole_c n a0 a1) (style_whole a0 a1) := (style_wholeN_le n n (a0, a1)).trans (Go.Lf.sup_le (g := fun n => style_wholeN n (a0, a1)) (fun m => style_wholeN_mono m _) n)
noncomputable def style_Whole_c (n : Nat) (a0 : List ((List (UInt8)) × ((List (UInt8)) × (((Int) × ((Int) × ((Int) × (Unit)))) × (Unit))))) (a1 : List (UInt8)) : Option (((Int) × ((Int) × ((Int) × (Unit)))) × (Int)) :=
 ((Go.Fn.style_Check_c n a0)).bind fun r1 =>
 bif (decide ((r1.2 : Int) ≠ (0 : Int))) then some (((0 : Int), ((0 : Int), ((0 : Int), ()))), r1.2)
 else ((Go.Fn.style_Find_c n a0 a1)).bind fun r2 =>
 bif (!r2.2) then some (((0 : Int), ((0 : Int), ((0 : Int), ()))), (66 : Int))
 else ((Go.Fn.style_whole_c n a0 r2.1)).bind fun r3 =>
 some (r3, (0 : Int))
theorem style_Whole_le (n : Nat) (a0 : List ((List (UInt8)) × ((List (UInt8)) × (((Int) × ((Int) × ((Int) × (Unit)))) × (Unit))))) (a1 : List (UInt8)) : Go.Lf.Le (style_Whole_c n a0 a1) (style_Whole a0 a1) := by
  unfold style_Whole_c style_Whole
  repeat' first
    | with_reducible exact Go.Fn.style_Check_le n _
    | with_reducible exact Go.Fn.style_Find_le n _ _
    | with_reducible exact Go.Fn.style_whole_le n _ _
    | with_reducible refine Go.Lf.Le.bind ?_ (fun _ => ?_)
    | with_reducible refine Go.Lf.Le.cond ?_ ?_
    | with_reducible refine Go.Lf.Le.loop (fun _ => ?_)
    | with_reducible refine Go.Lf.Le.onSum (fun _ => ?_) (fun _ => ?_)
    | with_reducible exact Go.Lf.Le.refl
noncomputable def style_Nest_c (n : Nat) (a0 : List ((List (UInt8)) × ((List (UInt8)) × (((Int) × ((Int) × ((Int) × (Unit)))) × (Unit))))) (a1 : List (List (UInt8))) : Option (((Int) × ((Int) × (Unit))) × ((Int) × (Int))) :=
 ((Go.Fn.style_Check_c n a0)).bind fun r1 =>
 bif (decide ((r1.2 : Int) ≠ (0 : Int))) then some (((0 : Int), ((0 : Int), ())), ((0 : Int), r1.2))
 else bif (decide ((32 : Int) < (((List.length a1) : Nat) : Int))) then some (((0 : Int), ((0 : Int), ())), ((0 : Int), (2 : Int)))
 else (Go.Lf.loopF n (σ := (Int) × (((Int) × ((Int) × (Unit))) × ((Int) × ((Int) × (Unit))))) (κ := (((Int) × ((Int) × (Unit))) × ((Int) × ((Int) × (Unit)))) ⊕ ((Int) × ((Int) × ((Int) × ((Int) × (Unit)))))) (fun z2 =>
     bif (decide (z2.1 < (((List.length a1) : Nat) : Int))) then ((Go.Lf.idx a1 z2.1)).bind fun r3 =>
     ((Go.Fn.style_Find_c n a0 r3)).bind fun r4 =>
     bif (!r4.2) then some (.inr (.inr (z2.1, ((66 : Int), ((0 : Int), ((0 : Int), ()))))))
     else ((Go.Fn.style_whole_c n a0 r4.1)).bind fun r5 =>
     ((Go.Fn.style_Apply_c n z2.2.2 r5)).bind fun r6 =>
     some (.inl ((Go.IntKind.wrap .i64 (z2.1 + (1 : Int))), (z2.2.1, r6)))
     else some (.inr (.inl (z2.2.1, z2.2.2)))) ((0 : Int), (((0 : Int), ((0 : Int), ())), ((0 : Int), ((7 : Int), ())))) : Option ((((Int) × ((Int) × (Unit))) × ((Int) × ((Int) × (Unit)))) ⊕ ((Int) × ((Int) × ((Int) × ((Int) × (Unit))))))).bind fun r7 =>
 Go.Lf.onSum r7 (fun a8 =>
 some (a8.2, ((0 : Int), (0 : Int)))) (fun b9 =>
 some (b9.2.2, (b9.1, b9.2.1)))
theorem style_Nest_le (n : Nat) (a0 : List ((List (UInt8)) × ((List (UInt8)) × (((Int) × ((Int) × ((Int) × (Unit)))) × (Unit))))) (a1 : List (List (UInt8))) : Go.Lf.Le (style_Nest_c n a0 a1) (style_Nest a0 a1) := by
  unfold style_Nest_c style_Nest
  repeat' first
    | with_reducible exact Go.Fn.style_Apply_le n _ _
    | with_reducible exact Go.Fn.style_Check_le n _
    | with_reducible exact Go.Fn.style_Find_le n _ _
    | with_reducible exact Go.Fn.style_whole_le n _ _
    | with_reducible refine Go.Lf.Le.bind ?_ (fun _ => ?_)
    | with_reducible refine Go.Lf.Le.cond ?_ ?_
    | with_reducible refine Go.Lf.Le.loop (fun _ => ?_)
    | with_reducible refine Go.Lf.Le.onSum (fun _ => ?_) (fun _ => ?_)
    | with_reducible exact Go.Lf.Le.refl
noncomputable def style_color_c (n : Nat) (a0 : List (List (UInt8))) : Option ((Int) × (Bool)) :=
 bif (decide (((((List.length a0) : Nat) : Int) : Int) = (0 : Int))) then some ((0 : Int), false)
 else ((Go.Lf.idx a0 (0 : Int))).bind fun r1 =>
 ((Go.Fn.strconv_Atoi_c n r1)).bind fun r2 =>
 (bif (Option.isNone r2.2) then bif (decide ((0 : Int) ≤ r2.1)) then bif (decide (r2.1 ≤ (15 : Int))) then ((Go.Fn.strconv_Itoa_c n r2.1)).bind fun r3 =>
   ((Go.Lf.idx a0 (0 : Int))).bind fun r4 =>
   some (r2.1, (decide ((r3 : List (UInt8)) = r4)))
   else some (r2.1, false)
   else some (r2.1, false)
   else some (r2.1, false)).bind fun r5 =>
 some (r5.1, r5.2)
theorem style_color_le (n : Nat) (a0 : List (List (UInt8))) : Go.Lf.Le (style_color_c n a0) (style_color a0) := by
  unfold style_color_c style_color
  repeat' first
    | with_reducible exact Go.Fn.strconv_Atoi_le n _
    | with_reducible exact Go.Fn.strconv_Itoa_le n _
    | with_reducible refine Go.Lf.Le.bind ?_ (fun _ => ?_)
    | with_reducible refine Go.Lf.Le.cond ?_ ?_
    | with_reducible refine Go.Lf.Le.loop (fun _ => ?_)
    | with_reducible refine Go.Lf.Le.onSum (fun _ => ?_) (fun _ => ?_)
    | with_reducible exact Go.Lf.Le.refl
noncomputable def style_words_c (n : Nat)  : Option (List (List (UInt8))) :=
 ((Go.Lf.made (16 : Nat) ([] : List (UInt8)) (7 : Int) (7 : Int))).bind fun r1 =>
 ((Go.Lf.chk (List.length r1) (0 : Int))).bind fun r2 =>
 ((Go.Lf.nth r1 r2)).bind fun r3 =>
 ((Go.Lf.chk (List.length (List.set r1 r2 ((98 : UInt8) :: ((111 : UInt8) :: ((108 : UInt8) :: ((100 : UInt8) :: ([] : List (UInt8)))))))) (1 : Int))).bind fun r4 =>
 ((Go.Lf.nth (List.set r1 r2 ((98 : UInt8) :: ((111 : UInt8) :: ((108 : UInt8) :: ((100 : UInt8) :: ([] : List (UInt8))))))) r4)).bind fun r5 =>
 ((Go.Lf.chk (List.length (List.set (List.set r1 r2 ((98 : UInt8) :: ((111 : UInt8) :: ((108 : UInt8) :: ((100 : UInt8) :: ([] : List (UInt8))))))) r4 ((105 : UInt8) :: ((116 : UInt8) :: ((97 : UInt8) :: ((108 : UInt8) :: ((105 : UInt8) :: ((99 : UInt8) :: ([] : List (UInt8)))))))))) (2 : Int))).bind fun r6 =>
 ((Go.Lf.nth (List.set (List.set r1 r2 ((98 : UInt8) :: ((111 : UInt8) :: ((108 : UInt8) :: ((100 : UInt8) :: ([] : List (UInt8))))))) r4 ((105 : UInt8) :: ((116 : UInt8) :: ((97 : UInt8) :: ((108 : UInt8) :: ((105 : UInt8) :: ((99 : UInt8) :: ([] : List (UInt8))))))))) r6)).bind fun r7 =>
 ((Go.Lf.chk (List.length (List.set (List.set (List.set r1 r2 ((98 : UInt8) :: ((111 : UInt8) :: ((108 : UInt8) :: ((100 : UInt8) :: ([] : List (UInt8))))))) r4 ((105 : UInt8) :: ((116 : UInt8) :: ((97 : UInt8) :: ((108 : UInt8) :: ((105 : UInt8) :: ((99 : UInt8) :: ([] : List (UInt8))))))))) r6 ((117 : UInt8) :: ((110 : UInt8) :: ((100 : UInt8) :: ((101 : UInt8) :: ((114 : UInt8) :: ([] : List (UInt8))))))))) (3 : Int))).bind fun r8 =>
 ((Go.Lf.nth (List.set (List.set (List.set r1 r2 ((98 : UInt8) :: ((111 : UInt8) :: ((108 : UInt8) :: ((100 : UInt8) :: ([] : List (UInt8))))))) r4 ((105 : UInt8) :: ((116 : UInt8) :: ((97 : UInt8) :: ((108 : UInt8) :: ((105 : UInt8) :: ((99 : UInt8) :: ([] : List (UInt8))))))))) r6 ((117 : UInt8) :: ((110 : UInt8) :: ((100 : UInt8) :: ((101 : UInt8) :: ((114 : UInt8) :: ([] : List (UInt8)))))))) r8)).bind fun r9 =>
 ((Go.Lf.chk (List.length (List.set (List.set (List.set (List.set r1 r2 ((98 : UInt8) :: ((111 : UInt8) :: ((108 : UInt8) :: ((100 : UInt8) :: ([] : List (UInt8))))))) r4 ((105 : UInt8) :: ((116 : UInt8) :: ((97 : UInt8) :: ((108 : UInt8) :: ((105 : UInt8) :: ((99 : UInt8) :: ([] : List (UInt8))))))))) r6 ((117 : UInt8) :: ((110 : UInt8) :: ((100 : UInt8) :: ((101 : UInt8) :: ((114 : UInt8) :: ([] : List (UInt8)))))))) r8 ((115 : UInt8) :: ((116 : UInt8) :: ((114 : UInt8) :: ((105 : UInt8) :: ((107 : UInt8) :: ((101 : UInt8) :: ([] : List (UInt8)))))))))) (4 : Int))).bind fun r10 =>
 ((Go.Lf.nth (List.set (List.set (List.set (List.set r1 r2 ((98 : UInt8) :: ((111 : UInt8) :: ((108 : UInt8) :: ((100 : UInt8) :: ([] : List (UInt8))))))) r4 ((105 : UInt8) :: ((116 : UInt8) :: ((97 : UInt8) :: ((108 : UInt8) :: ((105 : UInt8) :: ((99 : UInt8) :: ([] : List (UInt8))))))))) r6 ((117 : UInt8) :: ((110 : UInt8) :: ((100 : UInt8) :: ((101 : UInt8) :: ((114 : UInt8) :: ([] : List (UInt8)))))))) r8 ((115 : UInt8) :: ((116 : UInt8) :: ((114 : UInt8) :: ((105 : UInt8) :: ((107 : UInt8) :: ((101 : UInt8) :: ([] : List (UInt8))))))))) r10)).bind fun r11 =>
 ((Go.Lf.chk (List.length (List.set (List.set (List.set (List.set (List.set r1 r2 ((98 : UInt8) :: ((111 : UInt8) :: ((108 : UInt8) :: ((100 : UInt8) :: ([] : List (UInt8))))))) r4 ((105 : UInt8) :: ((116 : UInt8) :: ((97 : UInt8) :: ((108 : UInt8) :: ((105 : UInt8) :: ((99 : UInt8) :: ([] : List (UInt8))))))))) r6 ((117 : UInt8) :: ((110 : UInt8) :: ((100 : UInt8) :: ((101 : UInt8) :: ((114 : UInt8) :: ([] : List (UInt8)))))))) r8 ((115 : UInt8) :: ((116 : UInt8) :: ((114 : UInt8) :: ((105 : UInt8) :: ((107 : UInt8) :: ((101 : UInt8) :: ([] : List (UInt8))))))))) r10 ((109 : UInt8) :: ((111 : UInt8) :: ((110 : UInt8) :: ((111 : UInt8) :: ([] : List (UInt8)))))))) (5 : Int))).bind fun r12 =>
 ((Go.Lf.nth (List.set (List.set (List.set (List.set (List.set r1 r2 ((98 : UInt8) :: ((111 : UInt8) :: ((108 : UInt8) :: ((100 : UInt8) :: ([] : List (UInt8))))))) r4 ((105 : UInt8) :: ((116 : UInt8) :: ((97 : UInt8) :: ((108 : UInt8) :: ((105 : UInt8) :: ((99 : UInt8) :: ([] : List (UInt8))))))))) r6 ((117 : UInt8) :: ((110 : UInt8) :: ((100 : UInt8) :: ((101 : UInt8) :: ((114 : UInt8) :: ([] : List (UInt8)))))))) r8 ((115 : UInt8) :: ((116 : UInt8) :: ((114 : UInt8) :: ((105 : UInt8) :: ((107 : UInt8) :: ((101 : UInt8) :: ([] : List (UInt8))))))))) r10 ((109 : UInt8) :: ((111 : UInt8) :: ((110 : UInt8) :: ((111 : UInt8) :: ([] : List (UInt8))))))) r12)).bind fun r13 =>
 ((Go.Lf.chk (List.length (List.set (List.set (List.set (List.set (List.set (List.set r1 r2 ((98 : UInt8) :: ((111 : UInt8) :: ((108 : UInt8) :: ((100 : UInt8) :: ([] : List (UInt8))))))) r4 ((105 : UInt8) :: ((116 : UInt8) :: ((97 : UInt8) :: ((108 : UInt8) :: ((105 : UInt8) :: ((99 : UInt8) :: ([] : List (UInt8))))))))) r6 ((117 : UInt8) :: ((110 : UInt8) :: ((100 : UInt8) :: ((101 : UInt8) :: ((114 : UInt8) :: ([] : List (UInt8)))))))) r8 ((115 : UInt8) :: ((116 : UInt8) :: ((114 : UInt8) :: ((105 : UInt8) :: ((107 : UInt8) :: ((101 : UInt8) :: ([] : List (UInt8))))))))) r10 ((109 : UInt8) :: ((111 : UInt8) :: ((110 : UInt8) :: ((111 : UInt8) :: ([] : List (UInt8))))))) r12 ((115 : UInt8) :: ((109 : UInt8) :: ((97 : UInt8) :: ((108 : UInt8) :: ((108 : UInt8) :: ([] : List (UInt8))))))))) (6 : Int))).bind fun r14 =>
 ((Go.Lf.nth (List.set (List.set (List.set (List.set (List.set (List.set r1 r2 ((98 : UInt8) :: ((111 : UInt8) :: ((108 : UInt8) :: ((100 : UInt8) :: ([] : List (UInt8))))))) r4 ((105 : UInt8) :: ((116 : UInt8) :: ((97 : UInt8) :: ((108 : UInt8) :: ((105 : UInt8) :: ((99 : UInt8) :: ([] : List (UInt8))))))))) r6 ((117 : UInt8) :: ((110 : UInt8) :: ((100 : UInt8) :: ((101 : UInt8) :: ((114 : UInt8) :: ([] : List (UInt8)))))))) r8 ((115 : UInt8) :: ((116 : UInt8) :: ((114 : UInt8) :: ((105 : UInt8) :: ((107 : UInt8) :: ((101 : UInt8) :: ([] : List (UInt8))))))))) r10 ((109 : UInt8) :: ((111 : UInt8) :: ((110 : UInt8) :: ((111 : UInt8) :: ([] : List (UInt8))))))) r12 ((115 : UInt8) :: ((109 : UInt8) :: ((97 : UInt8) :: ((108 : UInt8) :: ((108 : UInt8) :: ([] : List (UInt8)))))))) r14)).bind fun r15 =>
 some (List.set (List.set (List.set (List.set (List.set (List.set (List.set r1 r2 ((98 : UInt8) :: ((111 : UInt8) :: ((108 : UInt8) :: ((100 : UInt8) :: ([] : List (UInt8))))))) r4 ((105 : UInt8) :: ((116 : UInt8) :: ((97 : UInt8) :: ((108 : UInt8) :: ((105 : UInt8) :: ((99 : UInt8) :: ([] : List (UInt8))))))))) r6 ((117 : UInt8) :: ((110 : UInt8) :: ((100 : UInt8) :: ((101 : UInt8) :: ((114 : UInt8) :: ([] : List (UInt8)))))))) r8 ((115 : UInt8) :: ((116 : UInt8) :: ((114 : UInt8) :: ((105 : UInt8) :: ((107 : UInt8) :: ((101 : UInt8) :: ([] : List (UInt8))))))))) r10 ((109 : UInt8) :: ((111 : UInt8) :: ((110 : UInt8) :: ((111 : UInt8) :: ([] : List (UInt8))))))) r12 ((115 : UInt8) :: ((109 : UInt8) :: ((97 : UInt8) :: ((108 : UInt8) :: ((108 : UInt8) :: ([] : List (UInt8)))))))) r14 ((114 : UInt8) :: ((101 : UInt8) :: ((118 : UInt8) :: ((101 : UInt8) :: ((114 : UInt8) :: ((115 : UInt8) :: ((101 : UInt8) :: ([] : List (UInt8))))))))))
theorem style_words_le (n : Nat)  : Go.Lf.Le (style_words_c n ) (style_words ) := by
  unfold style_words_c style_words
  repeat' first
    | with_reducible refine Go.Lf.Le.bind ?_ (fun _ => ?_)
    | with_reducible refine Go.Lf.Le.cond ?_ ?_
    | with_reducible refine Go.Lf.Le.loop (fun _ => ?_)
    | with_reducible refine Go.Lf.Le.onSum (fun _ => ?_) (fun _ => ?_)
    | with_reducible exact Go.Lf.Le.refl
noncomputable def style_attribute_c (n : Nat) (a0 : (List (UInt8)) × ((List (UInt8)) × (((Int) × ((Int) × ((Int) × (Unit)))) × (Unit)))) (a1 : List (UInt8)) : Option ((Bool) × ((List (UInt8)) × ((List (UInt8)) × (((Int) × ((Int) × ((Int) × (Unit)))) × (Unit))))) :=
 (Go.Fn.style_words_c n).bind fun r1 =>
 (Go.Lf.loopF n (σ := (Int) × ((List (UInt8)) × ((List (UInt8)) × (((Int) × ((Int) × ((Int) × (Unit)))) × (Unit))))) (κ := ((List (UInt8)) × ((List (UInt8)) × (((Int) × ((Int) × ((Int) × (Unit)))) × (Unit)))) ⊕ ((Bool) × ((List (UInt8)) × ((List (UInt8)) × (((Int) × ((Int) × ((Int) × (Unit)))) × (Unit)))))) (fun z2 =>
     bif (decide (z2.1 < (((List.length r1) : Nat) : Int))) then (((Go.Lf.idx r1 z2.1)).bind fun r3 =>
       (((Go.Lf.sub a1 (1 : Int) (((List.length a1) : Nat) : Int))).bind fun r4 =>
         bif (!(decide ((r4 : List (UInt8)) ≠ r3))) then ((Go.Lf.nn z2.1 (Int.fdiv (Go.Lf.bits .or .i64 z2.2.2.2.1.1 z2.2.2.2.1.2.1) ((2 : Int) ^ (Min.min (Int.toNat z2.1) (64 : Nat)))))).bind fun r5 =>
         some ((decide (((Go.Lf.bits .and .i64 r5 (1 : Int)) : Int) = (1 : Int))), z2.2)
         else some (true, z2.2)).bind fun r6 =>
       bif r6.1 then some (.inl r6.2)
       else ((Go.Lf.idx a1 (0 : Int))).bind fun r7 =>
       bif (decide (((((UInt8.toNat r7) : Nat) : Int) : Int) = (43 : Int))) then ((Go.Lf.nn z2.1 (Go.IntKind.wrap .i64 ((1 : Int) * ((2 : Int) ^ (Min.min (Int.toNat z2.1) (64 : Nat))))))).bind fun r8 =>
       some (.inr (true, (r6.2.1, (r6.2.2.1, (((Go.Lf.bits .or .i64 r6.2.2.2.1.1 r8), r6.2.2.2.1.2), r6.2.2.2.2)))))
       else bif (decide (((((UInt8.toNat r7) : Nat) : Int) : Int) = (45 : Int))) then ((Go.Lf.nn z2.1 (Go.IntKind.wrap .i64 ((1 : Int) * ((2 : Int) ^ (Min.min (Int.toNat z2.1) (64 : Nat))))))).bind fun r9 =>
       some (.inr (true, (r6.2.1, (r6.2.2.1, ((r6.2.2.2.1.1, ((Go.Lf.bits .or .i64 r6.2.2.2.1.2.1 r9), r6.2.2.2.1.2.2)), r6.2.2.2.2)))))
       else some (.inl r6.2) : Option (((List (UInt8)) × ((List (UInt8)) × (((Int) × ((Int) × ((Int) × (Unit)))) × (Unit)))) ⊕ ((Bool) × ((List (UInt8)) × ((List (UInt8)) × (((Int) × ((Int) × ((Int) × (Unit)))) × (Unit))))))).bind fun r10 =>
     Go.Lf.onSum r10 (fun a11 =>
     some (.inl ((Go.IntKind.wrap .i64 (z2.1 + (1 : Int))), a11))) (fun b12 =>
     some (.inr (.inr (b12.1, b12.2))))
     else some (.inr (.inl z2.2))) ((0 : Int), a0) : Option (((List (UInt8)) × ((List (UInt8)) × (((Int) × ((Int) × ((Int) × (Unit)))) × (Unit)))) ⊕ ((Bool) × ((List (UInt8)) × ((List (UInt8)) × (((Int) × ((Int) × ((Int) × (Unit)))) × (Unit))))))).bind fun r13 =>
 Go.Lf.onSum r13 (fun a14 =>
 some (false, a14)) (fun b15 =>
 some (b15.1, b15.2))
theorem style_attribute_le (n : Nat) (a0 : (List (UInt8)) × ((List (UInt8)) × (((Int) × ((Int) × ((Int) × (Unit)))) × (Unit)))) (a1 : List (UInt8)) : Go.Lf.Le (style_attribute_c n a0 a1) (style_attribute a0 a1) := by
  unfold style_attribute_c style_attribute
  repeat' first
    | with_reducible exact Go.Fn.style_words_le n
    | with_reducible refine Go.Lf.Le.bind ?_ (fun _ => ?_)
    | with_reducible refine Go.Lf.Le.cond ?_ ?_
    | with_reducible refine Go.Lf.Le.loop (fun _ => ?_)
    | with_reducible refine Go.Lf.Le.onSum (fun _ => ?_) (fun _ => ?_)
    | with_reducible exact Go.Lf.Le.refl
noncomputable def style_Parse_c (n : Nat) (a0 : List (UInt8)) : Option (((List (UInt8)) × ((List (UInt8)) × (((Int) × ((Int) × ((Int) × (Unit)))) × (Unit)))) × (Int)) :=
 bif (decide ((4096 : Int) < (((List.length a0) : Nat) : Int))) then some ((([] : List (UInt8)), (([] : List (UInt8)), (((0 : Int), ((0 : Int), ((0 : Int), ()))), ()))), (2 : Int))
 else ((Go.Fn.strings_FieldsFunc_c n a0 ())).bind fun r1 =>
 bif (decide (((((List.length r1) : Nat) : Int) : Int) = (0 : Int))) then some ((([] : List (UInt8)), (([] : List (UInt8)), (((0 : Int), ((0 : Int), ((0 : Int), ()))), ()))), (67 : Int))
 else ((Go.Lf.idx r1 (0 : Int))).bind fun r2 =>
 ((Go.Fn.strings_Cut_c n r2 ((58 : UInt8) :: ([] : List (UInt8))))).bind fun r3 =>
 (((Go.Fn.style_named_c n r3.1)).bind fun r4 =>
   bif (!(!r4)) then bif r3.2.2 then ((Go.Fn.style_named_c n r3.2.1)).bind fun r5 =>
   some ((!r5), (([] : List (UInt8)), (([] : List (UInt8)), (((0 : Int), ((0 : Int), ((0 : Int), ()))), ()))))
   else some (false, (([] : List (UInt8)), (([] : List (UInt8)), (((0 : Int), ((0 : Int), ((0 : Int), ()))), ()))))
   else some (true, (([] : List (UInt8)), (([] : List (UInt8)), (((0 : Int), ((0 : Int), ((0 : Int), ()))), ()))))).bind fun r6 =>
 bif r6.1 then some ((([] : List (UInt8)), (([] : List (UInt8)), (((0 : Int), ((0 : Int), ((0 : Int), ()))), ()))), (67 : Int))
 else (Go.Fn.style_plain_c n).bind fun r7 =>
 (Go.Lf.loopF n (σ := (Int) × (((List (UInt8)) × ((List (UInt8)) × (((Int) × ((Int) × ((Int) × (Unit)))) × (Unit)))) × ((List (UInt8)) × ((List (UInt8)) × (((Int) × ((Int) × ((Int) × (Unit)))) × (Unit)))))) (κ := (((List (UInt8)) × ((List (UInt8)) × (((Int) × ((Int) × ((Int) × (Unit)))) × (Unit)))) × ((List (UInt8)) × ((List (UInt8)) × (((Int) × ((Int) × ((Int) × (Unit)))) × (Unit))))) ⊕ ((Int) × ((List (UInt8)) × ((List (UInt8)) × (((Int) × ((Int) × ((Int) × (Unit)))) × (Unit)))))) (fun z8 =>
     bif (decide (z8.1 < (((List.length r1) : Nat) : Int))) then (((Go.Lf.idx r1 z8.1)).bind fun r9 =>
       bif (decide ((r9 : List (UInt8)) = ((99 : UInt8) :: ((111 : UInt8) :: ((108 : UInt8) :: ((111 : UInt8) :: ((114 : UInt8) :: ([] : List (UInt8))))))))) then ((Go.Lf.sub r1 (Go.IntKind.wrap .i64 (z8.1 + (1 : Int))) (((List.length r1) : Nat) : Int))).bind fun r10 =>
       ((Go.Fn.style_color_c n r10)).bind fun r11 =>
       (bif (!(!r11.2)) then some ((decide ((z8.2.2.2.2.1.2.2.1 : Int) ≠ (-(1 : Int)))), (z8.2.1, z8.2.2))
         else some (true, (z8.2.1, z8.2.2))).bind fun r12 =>
       bif r12.1 then some (.inl ((67 : Int), (([] : List (UInt8)), (([] : List (UInt8)), (((0 : Int), ((0 : Int), ((0 : Int), ()))), ())))))
       else some (.inr ((Go.IntKind.wrap .i64 (z8.1 + (1 : Int))), (r12.2.1, (r12.2.2.1, (r12.2.2.2.1, ((r12.2.2.2.2.1.1, (r12.2.2.2.2.1.2.1, (r11.1, r12.2.2.2.2.1.2.2.2))), r12.2.2.2.2.2))))))
       else ((Go.Lf.idx r1 z8.1)).bind fun r13 =>
       ((Go.Fn.style_attribute_c n z8.2.2 r13)).bind fun r14 =>
       bif (!r14.1) then some (.inl ((67 : Int), (([] : List (UInt8)), (([] : List (UInt8)), (((0 : Int), ((0 : Int), ((0 : Int), ()))), ())))))
       else some (.inr (z8.1, (z8.2.1, r14.2))) : Option (((Int) × ((List (UInt8)) × ((List (UInt8)) × (((Int) × ((Int) × ((Int) × (Unit)))) × (Unit))))) ⊕ ((Int) × (((List (UInt8)) × ((List (UInt8)) × (((Int) × ((Int) × ((Int) × (Unit)))) × (Unit)))) × ((List (UInt8)) × ((List (UInt8)) × (((Int) × ((Int) × ((Int) × (Unit)))) × (Unit)))))))).bind fun r15 =>
     Go.Lf.onSum r15 (fun a16 =>
     some (.inr (.inr (a16.1, a16.2)))) (fun b17 =>
     some (.inl ((Go.IntKind.wrap .i64 (b17.1 + (1 : Int))), (b17.2.1, b17.2.2))))
     else some (.inr (.inl (z8.2.1, z8.2.2)))) ((1 : Int), (r6.2, (r3.1, (r3.2.1, (r7, ()))))) : Option ((((List (UInt8)) × ((List (UInt8)) × (((Int) × ((Int) × ((Int) × (Unit)))) × (Unit)))) × ((List (UInt8)) × ((List (UInt8)) × (((Int) × ((Int) × ((Int) × (Unit)))) × (Unit))))) ⊕ ((Int) × ((List (UInt8)) × ((List (UInt8)) × (((Int) × ((Int) × ((Int) × (Unit)))) × (Unit))))))).bind fun r18 =>
 Go.Lf.onSum r18 (fun a19 =>
 some (a19.2, (0 : Int))) (fun b20 =>
 some (b20.2, b20.1))
theorem style_Parse_le (n : Nat) (a0 : List (UInt8)) : Go.Lf.Le (style_Parse_c n a0) (style_Parse a0) := by
  unfold style_Parse_c style_Parse
  repeat' first
    | with_reducible exact Go.Fn.strings_Cut_le n _ _
    | with_reducible exact Go.Fn.strings_FieldsFunc_le n _ _
    | with_reducible exact Go.Fn.style_attribute_le n _ _
    | with_reducible exact Go.Fn.style_color_le n _
    | with_reducible exact Go.Fn.style_named_le n _
    | with_reducible exact Go.Fn.style_plain_le n
    | with_reducible refine Go.Lf.Le.bind ?_ (fun _ => ?_)
    | with_reducible refine Go.Lf.Le.cond ?_ ?_
    | with_reducible refine Go.Lf.Le.loop (fun _ => ?_)
    | with_reducible refine Go.Lf.Le.onSum (fun _ => ?_) (fun _ => ?_)
    | with_reducible exact Go.Lf.Le.refl
noncomputable def style_Write_c (n : Nat) (a0 : (List (UInt8)) × ((List (UInt8)) × (((Int) × ((Int) × ((Int) × (Unit)))) × (Unit)))) : Option ((List (UInt8)) × (Int)) :=
 ((Go.Fn.style_named_c n a0.1)).bind fun r1 =>
 bif (!r1) then some (([] : List (UInt8)), (60 : Int))
 else ((Go.Fn.style_change_c n a0.2.2.1)).bind fun r2 =>
 bif (decide ((r2 : Int) ≠ (0 : Int))) then some (([] : List (UInt8)), r2)
 else (bif (decide ((a0.2.1 : List (UInt8)) ≠ ([] : List (UInt8)))) then ((Go.Fn.style_named_c n a0.2.1)).bind fun r3 =>
   some ((!r3), a0)
   else some (false, a0)).bind fun r4 =>
 bif r4.1 then some (([] : List (UInt8)), (64 : Int))
 else (bif (decide ((r4.2.2.1 : List (UInt8)) ≠ ([] : List (UInt8)))) then ((Go.Lf.cat ((58 : UInt8) :: ([] : List (UInt8))) r4.2.2.1)).bind fun r5 =>
   ((Go.Lf.cat r4.2.1 r5)).bind fun r6 =>
   some (r6, r4.2)
   else some (r4.2.1, r4.2)).bind fun r7 =>
 (Go.Lf.loopF n (σ := (List (UInt8)) × ((Int) × ((List (UInt8)) × ((List (UInt8)) × (((Int) × ((Int) × ((Int) × (Unit)))) × (Unit)))))) (κ := (List (UInt8)) × ((List (UInt8)) × ((List (UInt8)) × (((Int) × ((Int) × ((Int) × (Unit)))) × (Unit))))) (fun z8 =>
     bif (decide (z8.2.1 < (2 : Int))) then ((Go.Lf.idx (((32 : UInt8) :: ((43 : UInt8) :: ([] : List (UInt8)))) :: (((32 : UInt8) :: ((45 : UInt8) :: ([] : List (UInt8)))) :: ([] : List (List (UInt8))))) z8.2.1)).bind fun r9 =>
     ((Go.Lf.idx (z8.2.2.2.2.1.1 :: (z8.2.2.2.2.1.2.1 :: ([] : List (Int)))) z8.2.1)).bind fun r10 =>
     (Go.Fn.style_words_c n).bind fun r11 =>
     (Go.Lf.loopF n (σ := (Int) × ((List (UInt8)) × ((List (UInt8)) × ((List (UInt8)) × (((Int) × ((Int) × ((Int) × (Unit)))) × (Unit)))))) (κ := (List (UInt8)) × ((List (UInt8)) × ((List (UInt8)) × (((Int) × ((Int) × ((Int) × (Unit)))) × (Unit))))) (fun z12 =>
         bif (decide (z12.1 < (((List.length r11) : Nat) : Int))) then (((Go.Lf.idx r11 z12.1)).bind fun r13 =>
           ((Go.Lf.nn z12.1 (Int.fdiv r10 ((2 : Int) ^ (Min.min (Int.toNat z12.1) (64 : Nat)))))).bind fun r14 =>
           bif (decide (((Go.Lf.bits .and .i64 r14 (1 : Int)) : Int) = (1 : Int))) then ((Go.Lf.cat r9 r13)).bind fun r15 =>
           ((Go.Lf.cat z12.2.1 r15)).bind fun r16 =>
           some (r16, z12.2.2)
           else some (z12.2.1, z12.2.2)).bind fun r17 =>
         some (.inl ((Go.IntKind.wrap .i64 (z12.1 + (1 : Int))), (r17.1, r17.2)))
         else some (.inr (z12.2.1, z12.2.2))) ((0 : Int), (z8.1, z8.2.2)) : Option ((List (UInt8)) × ((List (UInt8)) × ((List (UInt8)) × (((Int) × ((Int) × ((Int) × (Unit)))) × (Unit)))))).bind fun r18 =>
     some (.inl (r18.1, ((Go.IntKind.wrap .i64 (z8.2.1 + (1 : Int))), r18.2)))
     else some (.inr (z8.1, z8.2.2))) (r7.1, ((0 : Int), r7.2)) : Option ((List (UInt8)) × ((List (UInt8)) × ((List (UInt8)) × (((Int) × ((Int) × ((Int) × (Unit)))) × (Unit)))))).bind fun r19 =>
 (bif (decide ((r19.2.2.2.1.2.2.1 : Int) ≠ (-(1 : Int)))) then ((Go.Fn.strconv_Itoa_c n r19.2.2.2.1.2.2.1)).bind fun r20 =>
   ((Go.Lf.cat ((32 : UInt8) :: ((99 : UInt8) :: ((111 : UInt8) :: ((108 : UInt8) :: ((111 : UInt8) :: ((114 : UInt8) :: ((32 : UInt8) :: ([] : List (UInt8))))))))) r20)).bind fun r21 =>
   ((Go.Lf.cat r19.1 r21)).bind fun r22 =>
   some r22
   else some r19.1).bind fun r23 =>
 some (r23, (0 : Int))
theorem style_Write_le (n : Nat) (a0 : (List (UInt8)) × ((List (UInt8)) × (((Int) × ((Int) × ((Int) × (Unit)))) × (Unit)))) : Go.Lf.Le (style_Write_c n a0) (style_Write a0) := by
  unfold style_Write_c style_Write
  repeat' first
    | with_reducible exact Go.Fn.strconv_Itoa_le n _
    | with_reducible exact Go.Fn.style_change_le n _
    | with_reducible exact Go.Fn.style_named_le n _
    | with_reducible exact Go.Fn.style_words_le n
    | with_reducible refine Go.Lf.Le.bind ?_ (fun _ => ?_)
    | with_reducible refine Go.Lf.Le.cond ?_ ?_
    | with_reducible refine Go.Lf.Le.loop (fun _ => ?_)
    | with_reducible refine Go.Lf.Le.onSum (fun _ => ?_) (fun _ => ?_)
    | with_reducible exact Go.Lf.Le.refl
noncomputable def style_Base_c (n : Nat)  : Option (List ((List (UInt8)) × ((List (UInt8)) × (((Int) × ((Int) × ((Int) × (Unit)))) × (Unit))))) :=
 (Go.Lf.loopF n (σ := (Int) × (List ((List (UInt8)) × ((List (UInt8)) × (((Int) × ((Int) × ((Int) × (Unit)))) × (Unit)))))) (κ := List ((List (UInt8)) × ((List (UInt8)) × (((Int) × ((Int) × ((Int) × (Unit)))) × (Unit))))) (fun z1 =>
     bif (decide (z1.1 < (((List.length (((98 : UInt8) :: ([] : List (UInt8))) :: (((105 : UInt8) :: ([] : List (UInt8))) :: (((117 : UInt8) :: ([] : List (UInt8))) :: (((115 : UInt8) :: ([] : List (UInt8))) :: (((109 : UInt8) :: ([] : List (UInt8))) :: (((104 : UInt8) :: ([] : List (UInt8))) :: ([] : List (List (UInt8)))))))))) : Nat) : Int))) then ((Go.Lf.idx (((98 : UInt8) :: ([] : List (UInt8))) :: (((105 : UInt8) :: ([] : List (UInt8))) :: (((117 : UInt8) :: ([] : List (UInt8))) :: (((115 : UInt8) :: ([] : List (UInt8))) :: (((109 : UInt8) :: ([] : List (UInt8))) :: (((104 : UInt8) :: ([] : List (UInt8))) :: ([] : List (List (UInt8))))))))) z1.1)).bind fun r2 =>
     ((Go.Lf.idx ((1 : Int) :: ((2 : Int) :: ((4 : Int) :: ((8 : Int) :: ((16 : Int) :: ((5 : Int) :: ([] : List (Int)))))))) z1.1)).bind fun r3 =>
     ((Go.Lf.app (56 : Nat) z1.2 ((r2, (([] : List (UInt8)), ((r3, ((0 : Int), ((-(1 : Int)), ()))), ()))) :: ([] : List ((List (UInt8)) × ((List (UInt8)) × (((Int) × ((Int) × ((Int) × (Unit)))) × (Unit)))))))).bind fun r4 =>
     some (.inl ((Go.IntKind.wrap .i64 (z1.1 + (1 : Int))), r4))
     else some (.inr z1.2)) ((0 : Int), ([] : List ((List (UInt8)) × ((List (UInt8)) × (((Int) × ((Int) × ((Int) × (Unit)))) × (Unit)))))) : Option (List ((List (UInt8)) × ((List (UInt8)) × (((Int) × ((Int) × ((Int) × (Unit)))) × (Unit)))))).bind fun r5 =>
 some r5
theorem style_Base_le (n : Nat)  : Go.Lf.Le (style_Base_c n ) (style_Base ) := by
  unfold style_Base_c style_Base
  repeat' first
    | with_reducible refine Go.Lf.Le.bind ?_ (fun _ => ?_)
    | with_reducible refine Go.Lf.Le.cond ?_ ?_
    | with_reducible refine Go.Lf.Le.loop (fun _ => ?_)
    | with_reducible refine Go.Lf.Le.onSum (fun _ => ?_) (fun _ => ?_)
    | with_reducible exact Go.Lf.Le.refl
noncomputable def foliolaw06_awake_c (n : Nat)  : Option (Bool) :=
 (Go.Fn.folioref06_Base_c n).bind fun r1 =>
 ((Go.Fn.style_Whole_c n r1 ((104 : UInt8) :: ([] : List (UInt8))))).bind fun r2 =>
 (Go.Fn.folioref06_Base_c n).bind fun r3 =>
 ((Go.Fn.style_Nest_c n r3 (((98 : UInt8) :: ([] : List (UInt8))) :: (((105 : UInt8) :: ([] : List (UInt8))) :: ([] : List (List (UInt8))))))).bind fun r4 =>
 ((Go.Fn.style_Parse_c n ((32 : UInt8) :: ((119 : UInt8) :: ((97 : UInt8) :: ((114 : UInt8) :: ((110 : UInt8) :: ((58 : UInt8) :: ((98 : UInt8) :: ((32 : UInt8) :: ((32 : UInt8) :: ((99 : UInt8) :: ((111 : UInt8) :: ((108 : UInt8) :: ((111 : UInt8) :: ((114 : UInt8) :: ((32 : UInt8) :: ((49 : UInt8) :: ((32 : UInt8) :: ((43 : UInt8) :: ((117 : UInt8) :: ((110 : UInt8) :: ((100 : UInt8) :: ((101 : UInt8) :: ((114 : UInt8) :: ((32 : UInt8) :: ((45 : UInt8) :: ((98 : UInt8) :: ((111 : UInt8) :: ((108 : UInt8) :: ((100 : UInt8) :: ((32 : UInt8) :: ([] : List (UInt8)))))))))))))))))))))))))))))))))).bind fun r5 =>
 ((Go.Fn.style_Write_c n r5.1)).bind fun r6 =>
 (bif (decide ((r2.2 : Int) = (0 : Int))) then ((Go.Fn.foliolaw06_same_c n r2.1 ((5 : Int), ((0 : Int), ((-(1 : Int)), ()))))).bind fun r7 =>
   bif r7 then bif (decide ((r4.2.2 : Int) = (0 : Int))) then ((Go.Fn.foliolaw06_look_c n r4.1 ((3 : Int), ((7 : Int), ())))).bind fun r8 =>
   bif r8 then bif (decide ((r5.2 : Int) = (0 : Int))) then bif (decide ((r6.2 : Int) = (0 : Int))) then bif (decide ((r6.1 : List (UInt8)) = ((119 : UInt8) :: ((97 : UInt8) :: ((114 : UInt8) :: ((110 : UInt8) :: ((58 : UInt8) :: ((98 : UInt8) :: ((32 : UInt8) :: ((43 : UInt8) :: ((117 : UInt8) :: ((110 : UInt8) :: ((100 : UInt8) :: ((101 : UInt8) :: ((114 : UInt8) :: ((32 : UInt8) :: ((45 : UInt8) :: ((98 : UInt8) :: ((111 : UInt8) :: ((108 : UInt8) :: ((100 : UInt8) :: ((32 : UInt8) :: ((99 : UInt8) :: ((111 : UInt8) :: ((108 : UInt8) :: ((111 : UInt8) :: ((114 : UInt8) :: ((32 : UInt8) :: ((49 : UInt8) :: ([] : List (UInt8))))))))))))))))))))))))))))))) then (Go.Fn.style_Base_c n).bind fun r9 =>
   some (decide (((((List.length r9) : Nat) : Int) : Int) = (6 : Int)))
   else some false
   else some false
   else some false
   else some false
   else some false
   else some false
   else some false).bind fun r10 =>
 some r10
theorem foliolaw06_awake_le (n : Nat)  : Go.Lf.Le (foliolaw06_awake_c n ) (foliolaw06_awake ) := by
  unfold foliolaw06_awake_c foliolaw06_awake
  repeat' first
    | with_reducible exact Go.Fn.foliolaw06_look_le n _ _
    | with_reducible exact Go.Fn.foliolaw06_same_le n _ _
    | with_reducible exact Go.Fn.folioref06_Base_le n
    | with_reducible exact Go.Fn.style_Base_le n
    | with_reducible exact Go.Fn.style_Nest_le n _ _
    | with_reducible exact Go.Fn.style_Parse_le n _
    | with_reducible exact Go.Fn.style_Whole_le n _ _
    | with_reducible exact Go.Fn.style_Write_le n _
    | with_reducible refine Go.Lf.Le.bind ?_ (fun _ => ?_)
    | with_reducible refine Go.Lf.Le.cond ?_ ?_
    | with_reducible refine Go.Lf.Le.loop (fun _ => ?_)
    | with_reducible refine Go.Lf.Le.onSum (fun _ => ?_) (fun _ => ?_)
    | with_reducible exact Go.Lf.Le.refl
noncomputable def foliolaw06_StyleChanges_c (n : Nat) (a0 : (Int) × ((Int) × ((Int) × (Unit)))) (a1 : (Int) × ((Int) × ((Int) × (Unit)))) (a2 : (Int) × ((Int) × (Unit))) : Option (Bool) :=
 (((Go.Fn.style_Then_c n a0 a1)).bind fun r1 =>
   ((Go.Fn.folioref06_Then_c n a0 a1)).bind fun r2 =>
   ((Go.Fn.foliolaw06_same_c n r1 r2)).bind fun r3 =>
   bif r3 then ((Go.Fn.style_Apply_c n a2 a0)).bind fun r4 =>
   ((Go.Fn.folioref06_Apply_c n a2 a0)).bind fun r5 =>
   ((Go.Fn.foliolaw06_look_c n r4 r5)).bind fun r6 =>
   bif r6 then (Go.Fn.foliolaw06_awake_c n).bind fun r7 =>
   some r7
   else some false
   else some false).bind fun r8 =>
 some r8
theorem foliolaw06_StyleChanges_le (n : Nat) (a0 : (Int) × ((Int) × ((Int) × (Unit)))) (a1 : (Int) × ((Int) × ((Int) × (Unit)))) (a2 : (Int) × ((Int) × (Unit))) : Go.Lf.Le (foliolaw06_StyleChanges_c n a0 a1 a2) (foliolaw06_StyleChanges a0 a1 a2) := by
  unfold foliolaw06_StyleChanges_c foliolaw06_StyleChanges
  repeat' first
    | with_reducible exact Go.Fn.foliolaw06_awake_le n
    | with_reducible exact Go.Fn.foliolaw06_look_le n _ _
    | with_reducible exact Go.Fn.foliolaw06_same_le n _ _
    | with_reducible exact Go.Fn.folioref06_Apply_le n _ _
    | with_reducible exact Go.Fn.folioref06_Then_le n _ _
    | with_reducible exact Go.Fn.style_Apply_le n _ _
    | with_reducible exact Go.Fn.style_Then_le n _ _
    | with_reducible refine Go.Lf.Le.bind ?_ (fun _ => ?_)
    | with_reducible refine Go.Lf.Le.cond ?_ ?_
    | with_reducible refine Go.Lf.Le.loop (fun _ => ?_)
    | with_reducible refine Go.Lf.Le.onSum (fun _ => ?_) (fun _ => ?_)
    | with_reducible exact Go.Lf.Le.refl
noncomputable def foliolaw06_apart_c (n : Nat) (a0 : (Int) × ((Int) × ((Int) × (Unit)))) : Option (Bool) :=
 some (decide (((Go.Lf.bits .and .i64 a0.1 a0.2.1) : Int) = (0 : Int)))
theorem foliolaw06_apart_le (n : Nat) (a0 : (Int) × ((Int) × ((Int) × (Unit)))) : Go.Lf.Le (foliolaw06_apart_c n a0) (foliolaw06_apart a0) := by
  unfold foliolaw06_apart_c foliolaw06_apart
  repeat' first
    | with_reducible refine Go.Lf.Le.bind ?_ (fun _ => ?_)
    | with_reducible refine Go.Lf.Le.cond ?_ ?_
    | with_reducible refine Go.Lf.Le.loop (fun _ => ?_)
    | with_reducible refine Go.Lf.Le.onSum (fun _ => ?_) (fun _ => ?_)
    | with_reducible exact Go.Lf.Le.refl
noncomputable def foliolaw06_StyleAssociates_c (n : Nat) (a0 : (Int) × ((Int) × ((Int) × (Unit)))) (a1 : (Int) × ((Int) × ((Int) × (Unit)))) (a2 : (Int) × ((Int) × ((Int) × (Unit)))) (a3 : (Int) × ((Int) × (Unit))) : Option (Bool) :=
 (Go.Fn.foliolaw06_awake_c n).bind fun r1 =>
 bif (!r1) then some false
 else (((Go.Fn.foliolaw06_apart_c n a0)).bind fun r2 =>
   bif (!(!r2)) then ((Go.Fn.foliolaw06_apart_c n a1)).bind fun r3 =>
   bif (!(!r3)) then ((Go.Fn.foliolaw06_apart_c n a2)).bind fun r4 =>
   some ((!r4), (a3, (a0, (a2, a1))))
   else some (true, (a3, (a0, (a2, a1))))
   else some (true, (a3, (a0, (a2, a1))))).bind fun r5 =>
 bif r5.1 then some true
 else (((Go.Fn.style_Apply_c n r5.2.1 r5.2.2.1)).bind fun r6 =>
   ((Go.Fn.style_Apply_c n r6 r5.2.2.2.2)).bind fun r7 =>
   ((Go.Fn.style_Then_c n r5.2.2.1 r5.2.2.2.2)).bind fun r8 =>
   ((Go.Fn.style_Apply_c n r5.2.1 r8)).bind fun r9 =>
   ((Go.Fn.foliolaw06_look_c n r7 r9)).bind fun r10 =>
   bif r10 then ((Go.Fn.style_Then_c n r5.2.2.1 r5.2.2.2.2)).bind fun r11 =>
   ((Go.Fn.style_Then_c n r11 r5.2.2.2.1)).bind fun r12 =>
   ((Go.Fn.style_Then_c n r5.2.2.2.2 r5.2.2.2.1)).bind fun r13 =>
   ((Go.Fn.style_Then_c n r5.2.2.1 r13)).bind fun r14 =>
   ((Go.Fn.foliolaw06_same_c n r12 r14)).bind fun r15 =>
   bif r15 then ((Go.Fn.style_Then_c n r5.2.2.1 ((0 : Int), ((0 : Int), ((-(1 : Int)), ()))))).bind fun r16 =>
   ((Go.Fn.foliolaw06_same_c n r16 r5.2.2.1)).bind fun r17 =>
   bif r17 then ((Go.Fn.style_Then_c n ((0 : Int), ((0 : Int), ((-(1 : Int)), ()))) r5.2.2.1)).bind fun r18 =>
   ((Go.Fn.foliolaw06_same_c n r18 r5.2.2.1)).bind fun r19 =>
   bif r19 then ((Go.Fn.style_Apply_c n r5.2.1 ((0 : Int), ((0 : Int), ((-(1 : Int)), ()))))).bind fun r20 =>
   ((Go.Fn.foliolaw06_look_c n r20 r5.2.1)).bind fun r21 =>
   some r21
   else some false
   else some false
   else some false
   else some false).bind fun r22 =>
 some r22
theorem foliolaw06_StyleAssociates_le (n : Nat) (a0 : (Int) × ((Int) × ((Int) × (Unit)))) (a1 : (Int) × ((Int) × ((Int) × (Unit)))) (a2 : (Int) × ((Int) × ((Int) × (Unit)))) (a3 : (Int) × ((Int) × (Unit))) : Go.Lf.Le (foliolaw06_StyleAssociates_c n a0 a1 a2 a3) (foliolaw06_StyleAssociates a0 a1 a2 a3) := by
  unfold foliolaw06_StyleAssociates_c foliolaw06_StyleAssociates
  repeat' first
    | with_reducible exact Go.Fn.foliolaw06_apart_le n _
    | with_reducible exact Go.Fn.foliolaw06_awake_le n
    | with_reducible exact Go.Fn.foliolaw06_look_le n _ _
    | with_reducible exact Go.Fn.foliolaw06_same_le n _ _
    | with_reducible exact Go.Fn.style_Apply_le n _ _
    | with_reducible exact Go.Fn.style_Then_le n _ _
    | with_reducible refine Go.Lf.Le.bind ?_ (fun _ => ?_)
    | with_reducible refine Go.Lf.Le.cond ?_ ?_
    | with_reducible refine Go.Lf.Le.loop (fun _ => ?_)
    | with_reducible refine Go.Lf.Le.onSum (fun _ => ?_) (fun _ => ?_)
    | with_reducible exact Go.Lf.Le.refl
end Go.Fn
