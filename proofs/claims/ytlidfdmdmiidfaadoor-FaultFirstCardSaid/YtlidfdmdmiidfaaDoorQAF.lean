/- Parts of the proof. -/
import Derived.Test.YtlidfdmdmiidfaaDoorProg
import Derived.KernelRfl
import Derived.Test.YtlidfdmdmiidfaaDoorQAE
open Go Go.Lf
set_option maxRecDepth 10000
namespace Go.Fn
abbrev vY0 : Lf.Ty := (.st (.pr .str (.pr (.int .i64) .unit)))
abbrev vT1 : Type := (List ((List (UInt8)) × ((Int) × (Unit))))
abbrev vY2 : Lf.Ty := (.pr (.int .i64) (.pr (.sl (.int .i64)) .unit))
abbrev vT3 : Type := ((List (UInt8)) × ((Int) × ((List (Int)) × (Unit))))
abbrev vY4 : Lf.Ty := (.pr (.rw 66 vY0) .unit)
abbrev vY6 : Lf.Ty := (.pr .str (.pr (.sl vY0) .unit))
abbrev vT7 : Type := ((List (UInt8)) × (vT1 × (Unit)))
abbrev vY8 : Lf.Ty := (.pr (.int .i64) (.pr (.sl vY0) .unit))
abbrev vY9 : Lf.Ty := (.pr (.int .i64) (.pr .str vY4))
abbrev vY10 : Lf.Ty := (.st (.pr (.int .i64) vY8))
abbrev vT11 : Type := ((Int) × ((Int) × ((Int) × vT7)))
abbrev vY12 : Lf.Ty := (.pr (.int .i64) (.pr (.int .i64) vY6))
abbrev vY13 : Lf.Ty := (.pr (.int .i64) (.pr (.int .i64) vY9))
abbrev vY14 : Lf.Ty := (.pr (.int .i64) (.pr (.int .i64) vY12))
abbrev vY15 : Lf.Ty := (.st (.pr (.int .i64) vY13))
abbrev vT16 : Type := ((Int) × (((Int) × vT11) × vT3))
abbrev vY17 : Lf.Ty := (.pr (.st vY14) (.pr .str vY2))
abbrev vY18 : Lf.Ty := (.st (.pr (.int .i64) vY17))
def TysT : List (Nat × Lf.TyI) := [(2, ⟨(.int .i64), 0, 0⟩),
 (3, ⟨(.int .i64), 0, 0⟩),
 (4, ⟨.bool, 0, 0⟩),
 (5, ⟨(.int .u8), 0, 0⟩),
 (6, ⟨(.int .u8), 0, 0⟩),
 (7, ⟨(.st (.pr (.int .i64) (.pr (.int .i64) (.pr .bool (.pr (.int .u8) .unit))))), 0, 0⟩),
 (8, ⟨(.st (.pr (.int .i64) (.pr (.int .i64) (.pr .bool (.pr (.int .u8) .unit))))), 0, 0⟩),
 (9, ⟨.str, 0, 0⟩),
 (10, ⟨.str, 0, 0⟩),
 (11, ⟨.str, 0, 0⟩),
 (12, ⟨(.int .u64), 0, 0⟩),
 (13, ⟨(.st (.pr .str (.pr (.int .u64) .unit))), 0, 0⟩),
 (14, ⟨(.st (.pr .str (.pr (.int .u64) .unit))), 0, 0⟩),
 (21, ⟨(.int .i32), 0, 0⟩),
 (22, ⟨(.sl vY18), 68, 128⟩),
 (25, ⟨(.sl .tr), 28, 16⟩),
 (28, ⟨.tr, 0, 0⟩),
 (40, ⟨(.int .i64), 0, 0⟩),
 (41, ⟨(.sl vY0), 66, 24⟩),
 (42, ⟨(.st vY14), 0, 0⟩),
 (43, ⟨(.st vY14), 0, 0⟩),
 (48, ⟨(.sl (.int .i64)), 3, 8⟩),
 (50, ⟨(.sl (.st vY14)), 43, 72⟩),
 (59, ⟨(.st (.pr (.int .i64) (.pr (.st vY14) .unit))), 0, 0⟩),
 (60, ⟨(.st (.pr (.int .i64) (.pr (.st vY14) .unit))), 0, 0⟩),
 (65, ⟨vY0, 0, 0⟩),
 (66, ⟨vY0, 0, 0⟩),
 (67, ⟨vY18, 0, 0⟩),
 (68, ⟨vY18, 0, 0⟩),
 (71, ⟨(.st (.pr .str .unit)), 0, 0⟩),
 (72, ⟨(.st (.pr .str .unit)), 0, 0⟩),
 (73, ⟨(.st (.pr .str (.pr .tr .unit))), 0, 0⟩),
 (74, ⟨(.st (.pr .str (.pr .tr .unit))), 0, 0⟩),
 (75, ⟨(.st (.pr .str (.pr (.sl .tr) .unit))), 0, 0⟩),
 (76, ⟨(.st (.pr .str (.pr (.sl .tr) .unit))), 0, 0⟩),
 (79, ⟨(.st (.pr vY0 (.pr .tr .unit))), 0, 0⟩),
 (80, ⟨(.st (.pr vY0 (.pr .tr .unit))), 0, 0⟩),
 (82, ⟨(.st (.pr (.int .i64) (.pr .tr .unit))), 0, 0⟩),
 (83, ⟨(.st (.pr (.int .i64) (.pr .tr .unit))), 0, 0⟩),
 (85, ⟨(.st (.pr (.sl .tr) .unit)), 0, 0⟩),
 (86, ⟨(.st (.pr (.sl .tr) .unit)), 0, 0⟩),
 (88, ⟨(.int .u64), 0, 0⟩),
 (102, ⟨vY10, 0, 0⟩),
 (107, ⟨(.sl (.int .u8)), 5, 1⟩),
 (27, ⟨.tr, 0, 0⟩),
 (28, ⟨.tr, 0, 0⟩),
 (37, ⟨(.ptr (.st (.pr (.int .i64) (.pr (.st vY14) .unit)))), 0, 0⟩),
 (78, ⟨(.ptr (.st (.pr vY0 (.pr .tr .unit)))), 0, 0⟩),
 (81, ⟨(.ptr (.st (.pr (.int .i64) (.pr .tr .unit)))), 0, 0⟩),
 (84, ⟨(.ptr (.st (.pr (.sl .tr) .unit))), 0, 0⟩),
 (121, ⟨.tr, 0, 0⟩),
 (123, ⟨.tr, 0, 0⟩),
 (125, ⟨.tr, 0, 0⟩),
 (126, ⟨.tr, 0, 0⟩),
 (127, ⟨.tr, 0, 0⟩)]
theorem TysT_ok : ∀ id i, Lf.look TysT id = some i → Lf.TyOk Proofs.Tryd.prog id i := Lf.tysB_ok (by kernel_rfl)
def TysTEq : List (Nat × Lf.Ty) := []
theorem TysTEq_ok : ∀ id t, Lf.look TysTEq id = some t → Lf.eqTop Proofs.Tryd.prog id t = true := Lf.eqsB_ok (by kernel_rfl)
def TysTIm : List (Nat × List (Nat × Bool)) := [(125, [(37, false), (78, true), (81, true), (84, false), (72, false), (74, true), (76, false)]), (126, [(37, false), (78, false), (81, false), (84, true), (72, false), (74, false), (76, true)])]
theorem TysTIm_ok : ∀ a l, Lf.look TysTIm a = some l → Lf.ImOk Proofs.Tryd.prog a l := Lf.imsB_ok (by kernel_rfl)
noncomputable def foliolaw01_fitsCtx : Lf.Ctx := ⟨89, TysT, [], [], [], [], [], TysTEq, [], none, TysTIm, []⟩
noncomputable def foliolaw01_fitsCode : Go.Code := (Proofs.Tryd.f9.body).getD .skip
def foliolaw01_fitsAnn : Lf.Ann := (.seq .no (.seq .no (.seq .no (.seq (.seq .no (.loop ⟨[15, 0, 16], [], [(4, (.mr 3 (.int .i64))), (3, (.mr 3 (.int .i64))), (17, (.int .i64))], [], []⟩ (.more (.ext 0) ⟨[0], [], [], [], []⟩ (.one .ret ⟨[], [], [(2, .bool)], [], []⟩)) (.seq .no (.seq .no (.seq (.seq .no (.seq .no (.seq .no (.seq (.seq .no (.loop ⟨[5, 38, 15, 0, 16, 17, 39], [], [(40, (.int .i64)), (4, (.mr 3 (.int .i64))), (3, (.mr 3 (.int .i64)))], [], []⟩ (.more (.ext 2) ⟨[15, 0, 16, 17, 5], [], [(4, (.mr 3 (.int .i64))), (3, (.mr 3 (.int .i64)))], [], []⟩ (.one .ret ⟨[], [], [(2, .bool)], [], []⟩)) (.seq .no (.seq .no (.seq (.seq .no (.seq (.seq (.join (.one .nrm ⟨[5, 38, 15, 0, 16, 17, 39, 40, 8], [], [(50, .bool), (4, (.mr 3 (.int .i64))), (3, (.mr 3 (.int .i64)))], [], []⟩) .no) .no) (.seq (.draw 10) (.draw 11)))) .no))))) (.seq (.join (.one .nrm ⟨[15, 0, 16, 17], [], [(84, .bool), (4, (.mr 3 (.int .i64))), (3, (.mr 3 (.int .i64)))], [], []⟩) .no) .no))))) .no))))) .no))))
noncomputable def foliolaw01_fits (a0 : List vT16) : Option (Bool) :=
 ((Lf.made (8 : Nat) (0 : Int) (((List.length a0) : Nat) : Int) (((List.length a0) : Nat) : Int))).bind fun r1 =>
 ((Lf.made (8 : Nat) (0 : Int) (((List.length a0) : Nat) : Int) (((List.length a0) : Nat) : Int))).bind fun r2 =>
 (Lf.loopC (σ := (List (Int)) × ((List (Int)) × (Int))) (κ := (Unit) ⊕ (Bool)) (fun z3 =>
     bif (decide (z3.2.2 < (((List.length a0) : Nat) : Int))) then ((Lf.idx a0 z3.2.2)).bind fun r4 =>
     ((Lf.chk (List.length z3.2.1) z3.2.2)).bind fun r5 =>
     ((Lf.nth z3.2.1 r5)).bind fun _ =>
     ((Lf.chk (List.length z3.1) z3.2.2)).bind fun r7 =>
     ((Lf.nth z3.1 r7)).bind fun _ =>
     (Lf.loopC (σ := (Int) × ((List (Int)) × (List (Int)))) (κ := ((List (Int)) × (List (Int))) ⊕ (Bool)) (fun z9 =>
         bif (decide (z9.1 < (((List.length r4.2.2.2.2.1) : Nat) : Int))) then ((Lf.idx r4.2.2.2.2.1 z9.1)).bind fun r10 =>
         (bif (!(decide (r10 < (0 : Int)))) then some ((decide (z3.2.2 ≤ r10)), (z9.2.1, z9.2.2))
           else some (true, (z9.2.1, z9.2.2))).bind fun r11 =>
         bif r11.1 then some (.inr (.inr false))
         else ((Lf.chk (List.length r11.2.2) z3.2.2)).bind fun r12 =>
         ((Lf.nth r11.2.2 r12)).bind fun r13 =>
         ((Lf.chk (List.length r11.2.2) r10)).bind fun r14 =>
         ((Lf.nth r11.2.2 r14)).bind fun r15 =>
         ((Lf.chk (List.length r11.2.2) z3.2.2)).bind fun r16 =>
         ((Lf.nth r11.2.2 r16)).bind fun _ =>
         ((Lf.chk (List.length r11.2.1) z3.2.2)).bind fun r18 =>
         ((Lf.nth r11.2.1 r18)).bind fun r19 =>
         ((Lf.chk (List.length r11.2.1) r10)).bind fun r20 =>
         ((Lf.nth r11.2.1 r20)).bind fun r21 =>
         ((Lf.chk (List.length r11.2.1) z3.2.2)).bind fun r22 =>
         ((Lf.nth r11.2.1 r22)).bind fun _ =>
         some (.inl ((IntKind.wrap .i64 (z9.1 + (1 : Int))), ((List.set r11.2.1 r22 (IntKind.wrap .i64 (r19 + (IntKind.wrap .i64 (r21 + (2 : Int)))))), (List.set r11.2.2 r16 (IntKind.wrap .i64 (r13 + r15))))))
         else some (.inr (.inl (z9.2.1, z9.2.2)))) ((0 : Int), ((List.set z3.1 r7 (IntKind.wrap .i64 ((IntKind.wrap .i64 ((60 : Int) + (((List.length r4.2.1.2.2.2.2.1) : Nat) : Int))) + (((List.length r4.2.2.1) : Nat) : Int)))), (List.set z3.2.1 r5 (1 : Int)))) : Option (((List (Int)) × (List (Int))) ⊕ (Bool))).bind fun r24 =>
     Lf.onSum r24 (fun a25 =>
     (((Lf.chk (List.length a25.2) z3.2.2)).bind fun r26 =>
       ((Lf.nth a25.2 r26)).bind fun r27 =>
       bif (!(decide ((20000 : Int) < r27))) then ((Lf.chk (List.length a25.1) z3.2.2)).bind fun r28 =>
       ((Lf.nth a25.1 r28)).bind fun r29 =>
       some ((decide ((1000000 : Int) < r29)), (a25.1, a25.2))
       else some (true, (a25.1, a25.2))).bind fun r30 =>
     bif r30.1 then some (.inr (.inr false))
     else some (.inl (r30.2.1, (r30.2.2, (IntKind.wrap .i64 (z3.2.2 + (1 : Int))))))) (fun b31 =>
     some (.inr (.inr b31)))
     else some (.inr (.inl ()))) (r2, (r1, (0 : Int))) : Option ((Unit) ⊕ (Bool))).bind fun r32 =>
 Lf.onSum r32 (fun _ =>
 some (decide ((((List.length a0) : Nat) : Int) ≤ (200 : Int)))) (fun b34 =>
 some b34)
theorem foliolaw01_fits_eq (a0 : List vT16) : Lf.fnE foliolaw01_fitsCtx foliolaw01_fitsCode foliolaw01_fitsAnn [.val (.sl vY18)] [.bool] [.tmp 2] (a0) = foliolaw01_fits a0 := by kernel_rfl
noncomputable def foliolaw01_fitsEnt : Nat × Lf.Entry := (9, ⟨[.val (.sl vY18)], [.bool], fun z => foliolaw01_fits z⟩)
theorem foliolaw01_fits_ok : Lf.EntryOk Proofs.Tryd.prog GG 9 foliolaw01_fitsEnt.2 :=
  Lf.fn_ok (c := foliolaw01_fitsCtx) (code := foliolaw01_fitsCode) (an := foliolaw01_fitsAnn) (slots := [.tmp 2]) (fn := Proofs.Tryd.f9) (by kernel_rfl) ⟨TysT_ok, Lf.FnsOk.look .nil, Lf.IpsOk.look .nil, TysTEq_ok, TysTIm_ok, Lf.IvsOk.look .nil, Lf.FxsOk.look .nil⟩ (by kernel_rfl) (by kernel_rfl) (by kernel_rfl) (by kernel_rfl) (by kernel_rfl) (Nat.le_of_ble_eq_true rfl) (by simp [Lf.Ty.top]) (by simp [Lf.Ty.top]) fun z r h => (foliolaw01_fits_eq z).trans h
noncomputable def foliolaw01_withinCtx : Lf.Ctx := ⟨32, TysT, [], [6, 7, 23, 31], [], [(6, (.rw 28 .tr)), (7, (.rw 28 .tr)), (23, (.rw 28 .tr)), (31, (.rw 28 .tr))], [], TysTEq, [], none, TysTIm, []⟩
noncomputable def foliolaw01_withinCode : Go.Code := (Proofs.Tryd.f35.body).getD .skip
def foliolaw01_withinAnn : Lf.Ann := (.seq .no (.seq .no (.seq (.seq .no (.loop ⟨[0, 1, 10, 11], [], [(12, (.int .i64)), (7, (.rw 28 .tr))], [], []⟩ (.one (.ext 0) ⟨[], [], [(7, (.rw 28 .tr))], [], []⟩) (.seq .no (.seq .no (.seq (.join (.one .nrm ⟨[0, 1, 10, 11, 12], [], [(7, (.rw 28 .tr))], [], []⟩) (.seq .no (.seq (.join (.one .nrm ⟨[0, 1, 10, 11, 12, 9], [], [(22, .bool), (7, (.rw 28 .tr))], [], []⟩) .no) .no))) .no))))) .no)))
noncomputable def foliolaw01_within (a0 : List (Lf.Er)) (a1 : Int) (a2 : List (Int)) : Option (List (Lf.Er)) :=
 (Lf.loopC (σ := (Int) × (List (Lf.Er))) (κ := List (Lf.Er)) (fun z1 =>
     bif (decide (z1.1 < (((List.length a2) : Nat) : Int))) then (((Lf.idx a2 z1.1)).bind fun r2 =>
       (bif (decide ((0 : Int) ≤ r2)) then some ((decide (r2 < a1)), z1.2)
         else some (false, z1.2)).bind fun r3 =>
       bif r3.1 then ((Lf.idx a0 r2)).bind fun r4 =>
       ((Lf.app (16 : Nat) r3.2 (r4 :: ([] : List (Lf.Er))))).bind fun r5 =>
       some r5
       else some r3.2).bind fun r6 =>
     some (.inl ((IntKind.wrap .i64 (z1.1 + (1 : Int))), r6))
     else some (.inr z1.2)) ((0 : Int), ([] : List (Lf.Er))) : Option (List (Lf.Er))).bind fun r7 =>
 some r7
theorem foliolaw01_within_eq (a0 : List (Lf.Er)) (a1 : Int) (a2 : List (Int)) : Lf.fnE foliolaw01_withinCtx foliolaw01_withinCode foliolaw01_withinAnn [.val (.sl .tr), .val (.int .i64), .val (.sl (.int .i64))] [(.rw 28 .tr)] [.tmp 6] (a0, a1, a2) = foliolaw01_within a0 a1 a2 := by kernel_rfl
noncomputable def foliolaw01_withinEnt : Nat × Lf.Entry := (35, ⟨[.val (.sl .tr), .val (.int .i64), .val (.sl (.int .i64))], [(.rw 28 .tr)], fun z => foliolaw01_within z.1 z.2.1 z.2.2⟩)
theorem foliolaw01_within_ok : Lf.EntryOk Proofs.Tryd.prog GG 35 foliolaw01_withinEnt.2 :=
  Lf.fn_ok (c := foliolaw01_withinCtx) (code := foliolaw01_withinCode) (an := foliolaw01_withinAnn) (slots := [.tmp 6]) (fn := Proofs.Tryd.f35) (by kernel_rfl) ⟨TysT_ok, Lf.FnsOk.look .nil, Lf.IpsOk.look .nil, TysTEq_ok, TysTIm_ok, Lf.IvsOk.look .nil, Lf.FxsOk.look .nil⟩ (by kernel_rfl) (by kernel_rfl) (by kernel_rfl) (by kernel_rfl) (by kernel_rfl) (Nat.le_of_ble_eq_true rfl) (by simp [Lf.Ty.top]) (by simp [Lf.Ty.top]) fun z r h => (foliolaw01_within_eq z.1 z.2.1 z.2.2).trans h
noncomputable def foliolaw01_firstCtx : Lf.Ctx := ⟨9, TysT, [], [], [], [], [], TysTEq, [], none, TysTIm, []⟩
noncomputable def foliolaw01_firstCode : Go.Code := (Proofs.Tryd.f36.body).getD .skip
def foliolaw01_firstAnn : Lf.Ann := .no
noncomputable def foliolaw01_first (a0 : List (Lf.Er)) : Option (Lf.Er) :=
 bif (decide (((((List.length a0) : Nat) : Int) : Int) = (0 : Int))) then some Lf.Er.nil
 else ((Lf.idx a0 (0 : Int))).bind fun r1 =>
 some r1
theorem foliolaw01_first_eq (a0 : List (Lf.Er)) : Lf.fnE foliolaw01_firstCtx foliolaw01_firstCode foliolaw01_firstAnn [.val (.sl .tr)] [.tr] [.tmp 2] (a0) = foliolaw01_first a0 := by kernel_rfl
noncomputable def foliolaw01_firstEnt : Nat × Lf.Entry := (36, ⟨[.val (.sl .tr)], [.tr], fun z => foliolaw01_first z⟩)
theorem foliolaw01_first_ok : Lf.EntryOk Proofs.Tryd.prog GG 36 foliolaw01_firstEnt.2 :=
  Lf.fn_ok (c := foliolaw01_firstCtx) (code := foliolaw01_firstCode) (an := foliolaw01_firstAnn) (slots := [.tmp 2]) (fn := Proofs.Tryd.f36) (by kernel_rfl) ⟨TysT_ok, Lf.FnsOk.look .nil, Lf.IpsOk.look .nil, TysTEq_ok, TysTIm_ok, Lf.IvsOk.look .nil, Lf.FxsOk.look .nil⟩ (by kernel_rfl) (by kernel_rfl) (by kernel_rfl) (by kernel_rfl) (by kernel_rfl) (Nat.le_of_ble_eq_true rfl) (by simp [Lf.Ty.top]) (by simp [Lf.Ty.top]) fun z r h => (foliolaw01_first_eq z).trans h
noncomputable def fault_UnderCtx : Lf.Ctx := ⟨16, TysT, [], [], [15], [(15, .tr)], [], TysTEq, [], none, TysTIm, []⟩
noncomputable def fault_UnderCode : Go.Code := (Proofs.Tryd.f14.body).getD .skip
def fault_UnderAnn : Lf.Ann := .no
noncomputable def fault_Under (a0 : Lf.Er) (a1 : List (UInt8)) (a2 : Int) : Option (Lf.Er) :=
 bif (Lf.Er.isNil a0) then some Lf.Er.nil
 else some (Lf.Er.nd (78 : Nat) false ((Lf.Ec.v (Go.Eng.str a1)) :: ((Lf.Ec.v (Go.Value.int .i64 a2)) :: ([] : List (Lf.Ec)))) (Lf.Tl.one a0))
theorem fault_Under_eq (a0 : Lf.Er) (a1 : List (UInt8)) (a2 : Int) : Lf.fnE fault_UnderCtx fault_UnderCode fault_UnderAnn [.val .tr, .val .str, .val (.int .i64)] [.tr] [.tmp 6] (a0, a1, a2) = fault_Under a0 a1 a2 := by kernel_rfl
noncomputable def fault_UnderEnt : Nat × Lf.Entry := (14, ⟨[.val .tr, .val .str, .val (.int .i64)], [.tr], fun z => fault_Under z.1 z.2.1 z.2.2⟩)
theorem fault_Under_ok : Lf.EntryOk Proofs.Tryd.prog GG 14 fault_UnderEnt.2 :=
  Lf.fn_ok (c := fault_UnderCtx) (code := fault_UnderCode) (an := fault_UnderAnn) (slots := [.tmp 6]) (fn := Proofs.Tryd.f14) (by kernel_rfl) ⟨TysT_ok, Lf.FnsOk.look .nil, Lf.IpsOk.look .nil, TysTEq_ok, TysTIm_ok, Lf.IvsOk.look .nil, Lf.FxsOk.look .nil⟩ (by kernel_rfl) (by kernel_rfl) (by kernel_rfl) (by kernel_rfl) (by kernel_rfl) (Nat.le_of_ble_eq_true rfl) (by simp [Lf.Ty.top]) (by simp [Lf.Ty.top]) fun z r h => (fault_Under_eq z.1 z.2.1 z.2.2).trans h
noncomputable def fault_InCtx : Lf.Ctx := ⟨12, TysT, [], [], [11], [(11, .tr)], [], TysTEq, [], none, TysTIm, []⟩
noncomputable def fault_InCode : Go.Code := (Proofs.Tryd.f16.body).getD .skip
def fault_InAnn : Lf.Ann := .no
noncomputable def fault_In (a0 : Lf.Er) (a1 : Int) : Option (Lf.Er) :=
 bif (Lf.Er.isNil a0) then some Lf.Er.nil
 else some (Lf.Er.nd (81 : Nat) false ((Lf.Ec.v (Go.Value.int .i64 a1)) :: ([] : List (Lf.Ec))) (Lf.Tl.one a0))
theorem fault_In_eq (a0 : Lf.Er) (a1 : Int) : Lf.fnE fault_InCtx fault_InCode fault_InAnn [.val .tr, .val (.int .i64)] [.tr] [.tmp 4] (a0, a1) = fault_In a0 a1 := by kernel_rfl
noncomputable def fault_InEnt : Nat × Lf.Entry := (16, ⟨[.val .tr, .val (.int .i64)], [.tr], fun z => fault_In z.1 z.2⟩)
theorem fault_In_ok : Lf.EntryOk Proofs.Tryd.prog GG 16 fault_InEnt.2 :=
  Lf.fn_ok (c := fault_InCtx) (code := fault_InCode) (an := fault_InAnn) (slots := [.tmp 4]) (fn := Proofs.Tryd.f16) (by kernel_rfl) ⟨TysT_ok, Lf.FnsOk.look .nil, Lf.IpsOk.look .nil, TysTEq_ok, TysTIm_ok, Lf.IvsOk.look .nil, Lf.FxsOk.look .nil⟩ (by kernel_rfl) (by kernel_rfl) (by kernel_rfl) (by kernel_rfl) (by kernel_rfl) (Nat.le_of_ble_eq_true rfl) (by simp [Lf.Ty.top]) (by simp [Lf.Ty.top]) fun z r h => (fault_In_eq z.1 z.2).trans h
noncomputable def fault_JoinCtx : Lf.Ctx := ⟨26, TysT, [], [3, 14], [25], [(3, (.rw 28 .tr)), (14, (.rw 28 .tr)), (25, .tr)], [], TysTEq, [], none, TysTIm, []⟩
noncomputable def fault_JoinCode : Go.Code := (Proofs.Tryd.f17.body).getD .skip
def fault_JoinAnn : Lf.Ann := (.seq .no (.seq .no (.seq (.seq .no (.loop ⟨[6, 7], [], [(8, (.int .i64)), (3, (.rw 28 .tr))], [], []⟩ (.one (.ext 0) ⟨[], [], [(3, (.rw 28 .tr))], [], []⟩) (.seq .no (.seq .no (.seq (.join (.one .nrm ⟨[6, 7, 8], [], [(3, (.rw 28 .tr))], [], []⟩) .no) .no))))) .no)))
noncomputable def fault_Join (a0 : List (Lf.Er)) : Option (Lf.Er) :=
 (Lf.loopC (σ := (Int) × (List (Lf.Er))) (κ := List (Lf.Er)) (fun z1 =>
     bif (decide (z1.1 < (((List.length a0) : Nat) : Int))) then (((Lf.idx a0 z1.1)).bind fun r2 =>
       bif (!(Lf.Er.isNil r2)) then ((Lf.app (16 : Nat) z1.2 (r2 :: ([] : List (Lf.Er))))).bind fun r3 =>
       some r3
       else some z1.2).bind fun r4 =>
     some (.inl ((IntKind.wrap .i64 (z1.1 + (1 : Int))), r4))
     else some (.inr z1.2)) ((0 : Int), ([] : List (Lf.Er))) : Option (List (Lf.Er))).bind fun r5 =>
 bif (decide (((((List.length r5) : Nat) : Int) : Int) = (0 : Int))) then some Lf.Er.nil
 else some (Lf.Er.nd (84 : Nat) false ([] : List (Lf.Ec)) (Lf.Tl.many r5))
theorem fault_Join_eq (a0 : List (Lf.Er)) : Lf.fnE fault_JoinCtx fault_JoinCode fault_JoinAnn [.val (.sl .tr)] [.tr] [.tmp 2] (a0) = fault_Join a0 := by kernel_rfl
noncomputable def fault_JoinEnt : Nat × Lf.Entry := (17, ⟨[.val (.sl .tr)], [.tr], fun z => fault_Join z⟩)
theorem fault_Join_ok : Lf.EntryOk Proofs.Tryd.prog GG 17 fault_JoinEnt.2 :=
  Lf.fn_ok (c := fault_JoinCtx) (code := fault_JoinCode) (an := fault_JoinAnn) (slots := [.tmp 2]) (fn := Proofs.Tryd.f17) (by kernel_rfl) ⟨TysT_ok, Lf.FnsOk.look .nil, Lf.IpsOk.look .nil, TysTEq_ok, TysTIm_ok, Lf.IvsOk.look .nil, Lf.FxsOk.look .nil⟩ (by kernel_rfl) (by kernel_rfl) (by kernel_rfl) (by kernel_rfl) (by kernel_rfl) (Nat.le_of_ble_eq_true rfl) (by simp [Lf.Ty.top]) (by simp [Lf.Ty.top]) fun z r h => (fault_Join_eq z).trans h
noncomputable def foliolaw01_madeCtx : Lf.Ctx := ⟨87, TysT, [fault_UnderEnt, fault_InEnt, fault_JoinEnt, fault_NewEnt, foliolaw01_withinEnt, foliolaw01_firstEnt], [2, 3, 81, 86], [], [(2, (.rw 28 .tr)), (3, (.rw 28 .tr)), (65, .tr), (73, .tr), (80, .tr), (81, (.rw 28 .tr)), (86, (.rw 28 .tr))], [], TysTEq, [], none, TysTIm, []⟩
noncomputable def foliolaw01_madeCode : Go.Code := (Proofs.Tryd.f10.body).getD .skip
def foliolaw01_madeAnn : Lf.Ann := (.seq .no (.seq .no (.seq (.seq .no (.loop ⟨[8, 9], [], [(10, (.int .i64)), (3, (.rw 28 .tr))], [], []⟩ (.one (.ext 0) ⟨[], [], [(3, (.rw 28 .tr))], [], []⟩) (.seq .no (.seq .no (.seq (.seq .no (.seq .no (.seq .no (.seq (.join (.one .nrm ⟨[8, 9, 10], [], [(7, .tr), (3, (.rw 28 .tr))], [], []⟩) (.seq .no (.seq .no (.cnd .no (.seq .no (.cnd (.soup 6) (.seq .no (.cnd (.soup 4) (.seq .no (.cnd .no (.seq .no (.cnd .no (.seq .no (.cnd (.soup 4) .no)))))))))))))) .no)))) .no))))) .no)))
noncomputable def foliolaw01_made (a0 : List vT16) : Option (List (Lf.Er)) :=
 (Lf.loopC (σ := (Int) × (List (Lf.Er))) (κ := List (Lf.Er)) (fun z1 =>
     bif (decide (z1.1 < (((List.length a0) : Nat) : Int))) then ((Lf.idx a0 z1.1)).bind fun r2 =>
     ((Go.Fn.foliolaw01_within z1.2 z1.1 r2.2.2.2.2.1)).bind fun r3 =>
     (bif (decide ((r2.1 : Int) = (0 : Int))) then ((Go.Fn.fault_New r2.2.1.1 r2.2.1.2.1 r2.2.1.2.2.1 r2.2.1.2.2.2.1 r2.2.1.2.2.2.2.1)).bind fun r4 =>
       some (r4, z1.2)
       else bif (decide ((r2.1 : Int) = (1 : Int))) then ((Go.Fn.foliolaw01_first r3)).bind fun r5 =>
       ((Go.Fn.fault_Under r5 r2.2.2.1 r2.2.2.2.1)).bind fun r6 =>
       some (r6, z1.2)
       else bif (decide ((r2.1 : Int) = (2 : Int))) then ((Go.Fn.foliolaw01_first r3)).bind fun r7 =>
       ((Go.Fn.fault_In r7 r2.2.2.2.1)).bind fun r8 =>
       some (r8, z1.2)
       else bif (decide ((r2.1 : Int) = (3 : Int))) then ((Go.Fn.fault_Join r3)).bind fun r9 =>
       some (r9, z1.2)
       else bif (decide ((r2.1 : Int) = (4 : Int))) then some ((Lf.Er.nd (72 : Nat) true ((Lf.Ec.v (Go.Eng.str r2.2.2.1)) :: ([] : List (Lf.Ec))) Lf.Tl.no), z1.2)
       else bif (decide ((r2.1 : Int) = (5 : Int))) then ((Go.Fn.foliolaw01_first r3)).bind fun r10 =>
       some ((Lf.Er.nd (74 : Nat) true ((Lf.Ec.v (Go.Eng.str r2.2.2.1)) :: ([] : List (Lf.Ec))) (Lf.Tl.one r10)), z1.2)
       else bif (decide ((r2.1 : Int) = (6 : Int))) then some ((Lf.Er.nd (76 : Nat) true ((Lf.Ec.v (Go.Eng.str r2.2.2.1)) :: ([] : List (Lf.Ec))) (Lf.Tl.many r3)), z1.2)
       else some (Lf.Er.nil, z1.2)).bind fun r11 =>
     ((Lf.app (16 : Nat) r11.2 (r11.1 :: ([] : List (Lf.Er))))).bind fun r12 =>
     some (.inl ((IntKind.wrap .i64 (z1.1 + (1 : Int))), r12))
     else some (.inr z1.2)) ((0 : Int), ([] : List (Lf.Er))) : Option (List (Lf.Er))).bind fun r13 =>
 some r13
theorem foliolaw01_made_eq (a0 : List vT16) : Lf.fnE foliolaw01_madeCtx foliolaw01_madeCode foliolaw01_madeAnn [.val (.sl vY18)] [(.rw 28 .tr)] [.tmp 2] (a0) = foliolaw01_made a0 := by kernel_rfl
noncomputable def foliolaw01_madeEnt : Nat × Lf.Entry := (10, ⟨[.val (.sl vY18)], [(.rw 28 .tr)], fun z => foliolaw01_made z⟩)
theorem foliolaw01_made_ok : Lf.EntryOk Proofs.Tryd.prog GG 10 foliolaw01_madeEnt.2 :=
  Lf.fn_ok (c := foliolaw01_madeCtx) (code := foliolaw01_madeCode) (an := foliolaw01_madeAnn) (slots := [.tmp 2]) (fn := Proofs.Tryd.f10) (by kernel_rfl) ⟨TysT_ok, Lf.FnsOk.look (.con fault_Under_ok (.con fault_In_ok (.con fault_Join_ok (.con fault_New_ok (.con foliolaw01_within_ok (.con foliolaw01_first_ok .nil)))))), Lf.IpsOk.look .nil, TysTEq_ok, TysTIm_ok, Lf.IvsOk.look .nil, Lf.FxsOk.look .nil⟩ (by kernel_rfl) (by kernel_rfl) (by kernel_rfl) (by kernel_rfl) (by kernel_rfl) (Nat.le_of_ble_eq_true rfl) (by simp [Lf.Ty.top]) (by simp [Lf.Ty.top]) fun z r h => (foliolaw01_made_eq z).trans h
noncomputable def folioref01_kidsCtx (self : (List vT16) × (Int) → Option (Bool)) : Lf.Ctx := ⟨89, TysT, [(12, ⟨[.val (.sl vY18), .val (.int .i64)], [.bool], self⟩)], [4, 5, 82, 88], [], [(4, (.rw 3 (.int .i64))), (5, (.rw 3 (.int .i64))), (82, (.rw 3 (.int .i64))), (88, (.rw 3 (.int .i64)))], [], TysTEq, [], none, TysTIm, []⟩
noncomputable def folioref01_kidsCode : Go.Code := (Proofs.Tryd.f37.body).getD .skip
def folioref01_kidsAnn : Lf.Ann := (.seq .no (.seq .no (.seq (.seq (.join (.one .nrm ⟨[0, 1], [], [(30, .bool), (5, (.rw 3 (.int .i64)))], [], []⟩) .no) .no) (.seq (.join (.one .nrm ⟨[0, 1], [], [(5, (.rw 3 (.int .i64))), (6, .bool)], [], []⟩) .no) (.seq (.seq .no (.loop ⟨[6, 0, 1, 57, 58], [], [(5, (.rw 3 (.int .i64))), (59, (.int .i64))], [], []⟩ (.one (.ext 0) ⟨[], [], [(5, (.rw 3 (.int .i64)))], [], []⟩) (.seq .no (.seq .no (.seq (.join (.more (.ext 0) ⟨[], [], [(5, (.rw 3 (.int .i64)))], [], []⟩ (.one .nrm ⟨[6, 0, 1, 57, 58, 59], [], [(5, (.rw 3 (.int .i64)))], [], []⟩)) (.seq .no (.seq (.seq (.join (.one .nrm ⟨[6, 0, 1, 57, 58, 59, 8], [], [(68, .bool), (5, (.rw 3 (.int .i64)))], [], []⟩) .no) .no) (.seq (.join (.one .nrm ⟨[6, 0, 1, 57, 58, 59, 8], [], [(81, .bool), (5, (.rw 3 (.int .i64)))], [], []⟩) .no) .no)))) .no))))) .no)))))
noncomputable def folioref01_kidsP (self : (List vT16) × (Int) → Option (Bool)) (a0 : List vT16) (a1 : Int) : Option (List (Int)) :=
 (((Lf.idx a0 a1)).bind fun r1 =>
   bif (!(decide ((r1.1 : Int) = (0 : Int)))) then ((Lf.idx a0 a1)).bind fun r2 =>
   bif (!(decide ((r2.1 : Int) = (4 : Int)))) then ((Lf.idx a0 a1)).bind fun r3 =>
   some ((decide ((r3.1 : Int) = (7 : Int))), ([] : List (Int)))
   else some (true, ([] : List (Int)))
   else some (true, ([] : List (Int)))).bind fun r4 =>
 bif r4.1 then some ([] : List (Int))
 else (((Lf.idx a0 a1)).bind fun r5 =>
   bif (!(decide ((r5.1 : Int) = (1 : Int)))) then ((Lf.idx a0 a1)).bind fun r6 =>
   bif (!(decide ((r6.1 : Int) = (2 : Int)))) then ((Lf.idx a0 a1)).bind fun r7 =>
   some (r4.2, (decide ((r7.1 : Int) = (5 : Int))))
   else some (r4.2, true)
   else some (r4.2, true)).bind fun r8 =>
 ((Lf.idx a0 a1)).bind fun r9 =>
 (Lf.loopC (σ := (List (Int)) × (Int)) (κ := List (Int)) (fun z10 =>
     bif (decide (z10.2 < (((List.length r9.2.2.2.2.1) : Nat) : Int))) then (((Lf.idx r9.2.2.2.2.1 z10.2)).bind fun r11 =>
       (bif r8.2 then some ((decide ((0 : Int) < (((List.length z10.1) : Nat) : Int))), z10.1)
         else some (false, z10.1)).bind fun r12 =>
       bif r12.1 then some (.inl r12.2)
       else (bif (decide ((0 : Int) ≤ r11)) then bif (decide (r11 < a1)) then ((self (a0, r11))).bind fun r13 =>
         some ((!r13), r12.2)
         else some (false, r12.2)
         else some (false, r12.2)).bind fun r14 =>
       bif r14.1 then ((Lf.app (8 : Nat) r14.2 (r11 :: ([] : List (Int))))).bind fun r15 =>
       some (.inr r15)
       else bif r8.2 then some (.inl r14.2)
       else some (.inr r14.2) : Option ((List (Int)) ⊕ (List (Int)))).bind fun r16 =>
     Lf.onSum r16 (fun a17 =>
     some (.inr a17)) (fun b18 =>
     some (.inl (b18, (IntKind.wrap .i64 (z10.2 + (1 : Int))))))
     else some (.inr z10.1)) (r8.1, (0 : Int)) : Option (List (Int))).bind fun r19 =>
 some r19
theorem folioref01_kids_eq (self : (List vT16) × (Int) → Option (Bool)) (a0 : List vT16) (a1 : Int) : Lf.fnE (folioref01_kidsCtx self) folioref01_kidsCode folioref01_kidsAnn [.val (.sl vY18), .val (.int .i64)] [(.sl (.int .i64))] [.tmp 4] (a0, a1) = folioref01_kidsP self a0 a1 := by kernel_rfl
noncomputable def folioref01_kidsPEnt (self : (List vT16) × (Int) → Option (Bool)) : Nat × Lf.Entry := (37, ⟨[.val (.sl vY18), .val (.int .i64)], [(.sl (.int .i64))], fun z => folioref01_kidsP self z.1 z.2⟩)
theorem folioref01_kids_okP (self : (List vT16) × (Int) → Option (Bool)) (ih : Lf.EntryOk Proofs.Tryd.prog GG 12 ⟨[.val (.sl vY18), .val (.int .i64)], [.bool], self⟩) : Lf.EntryOk Proofs.Tryd.prog GG 37 (folioref01_kidsPEnt self).2 :=
  Lf.fn_ok (c := (folioref01_kidsCtx self)) (code := folioref01_kidsCode) (an := folioref01_kidsAnn) (slots := [.tmp 4]) (fn := Proofs.Tryd.f37) (by kernel_rfl) ⟨TysT_ok, Lf.FnsOk.look (.cons ih .nil), Lf.IpsOk.look .nil, TysTEq_ok, TysTIm_ok, Lf.IvsOk.look .nil, Lf.FxsOk.look .nil⟩ (by kernel_rfl) (by kernel_rfl) (by kernel_rfl) (by kernel_rfl) (by kernel_rfl) (Nat.le_of_ble_eq_true rfl) (by simp [Lf.Ty.top]) (by simp [Lf.Ty.top]) fun z r h => (folioref01_kids_eq self z.1 z.2).trans h
noncomputable def folioref01_NilCtx (self : (List vT16) × (Int) → Option (Bool)) : Lf.Ctx := ⟨60, TysT, [(12, ⟨[.val (.sl vY18), .val (.int .i64)], [.bool], self⟩), folioref01_kidsPEnt self], [], [], [], [], TysTEq, [], none, TysTIm, []⟩
noncomputable def folioref01_NilCode : Go.Code := (Proofs.Tryd.f12.body).getD .skip
def folioref01_NilAnn : Lf.Ann := (.seq .no (.seq (.seq (.join (.one .nrm ⟨[0, 1], [], [(13, .bool)], [], []⟩) .no) .no) (.seq .no (.seq (.seq .no (.seq .no (.cnd .no (.seq (.join (.one .nrm ⟨[0, 1, 19], [(5, .ref 5 [] 0)], [(26, .bool)], [(5, 68, vY18)], []⟩) .no) (.cnd (.seq (.join (.one .nrm ⟨[], [], [(4, .bool)], [], []⟩) .no) .no) (.seq .no (.cnd .no (.seq (.join (.one .nrm ⟨[], [], [(56, .bool)], [], []⟩) .no) .no)))))))) .no))))
noncomputable def folioref01_NilB (self : (List vT16) × (Int) → Option (Bool)) (a0 : List vT16) (a1 : Int) : Option (Bool) :=
 (bif (!(decide (a1 < (0 : Int)))) then some (decide ((((List.length a0) : Nat) : Int) ≤ a1))
   else some true).bind fun r1 =>
 bif r1 then some true
 else ((Lf.idx a0 a1)).bind fun r2 =>
 bif (decide ((r2.1 : Int) = (0 : Int))) then some (decide ((r2.2.1.1 : Int) = (0 : Int)))
 else (bif (decide ((r2.1 : Int) = (1 : Int))) then some ((decide ((r2.1 : Int) = (1 : Int))), r2)
   else some ((decide ((r2.1 : Int) = (2 : Int))), r2)).bind fun r3 =>
 bif r3.1 then (bif (!(decide (((((List.length r3.2.2.2.2.2.1) : Nat) : Int) : Int) = (0 : Int)))) then ((Lf.idx r3.2.2.2.2.2.1 (0 : Int))).bind fun r4 =>
   bif (!(decide (a1 ≤ r4))) then ((Lf.idx r3.2.2.2.2.2.1 (0 : Int))).bind fun r5 =>
   ((self (a0, r5))).bind fun r6 =>
   some r6
   else some true
   else some true).bind fun r7 =>
 some r7
 else bif (decide ((r2.1 : Int) = (3 : Int))) then ((Go.Fn.folioref01_kidsP self a0 a1)).bind fun r8 =>
 some (decide (((((List.length r8) : Nat) : Int) : Int) = (0 : Int)))
 else (bif (decide ((r2.1 : Int) = (4 : Int))) then some (decide ((r2.1 : Int) = (4 : Int)))
   else bif (decide ((r2.1 : Int) = (5 : Int))) then some (decide ((r2.1 : Int) = (5 : Int)))
   else some (decide ((r2.1 : Int) = (6 : Int)))).bind fun r9 =>
 bif r9 then some false
 else some true
theorem folioref01_Nil_eq (self : (List vT16) × (Int) → Option (Bool)) (a0 : List vT16) (a1 : Int) : Lf.fnE (folioref01_NilCtx self) folioref01_NilCode folioref01_NilAnn [.val (.sl vY18), .val (.int .i64)] [.bool] [.tmp 4] (a0, a1) = folioref01_NilB self a0 a1 := by kernel_rfl
noncomputable def folioref01_NilN : Nat → (List vT16) × (Int) → Option (Bool)
 | 0 => fun _ => none
 | n + 1 => fun z => folioref01_NilB (folioref01_NilN n) z.1 z.2
noncomputable def folioref01_Nil (a0 : List vT16) (a1 : Int) : Option (Bool) := Lf.supC fun n => folioref01_NilN n (a0, a1)
noncomputable def folioref01_NilEnt : Nat × Lf.Entry := (12, ⟨[.val (.sl vY18), .val (.int .i64)], [.bool], fun z => folioref01_Nil z.1 z.2⟩)
theorem folioref01_Nil_ok : Lf.EntryOk Proofs.Tryd.prog GG 12 folioref01_NilEnt.2 :=
  Lf.rec_ok (ps := [.val (.sl vY18), .val (.int .i64)]) (rs := [.bool]) (N := folioref01_NilN) Proofs.Tryd.f12 (by kernel_rfl) (by kernel_rfl) (by kernel_rfl) (by simp [Lf.Ty.top]) (fun _ => rfl) fun n ih => Lf.fn_ok (c := folioref01_NilCtx (folioref01_NilN n)) (code := folioref01_NilCode) (an := folioref01_NilAnn) (slots := [.tmp 4]) (fn := Proofs.Tryd.f12) (by kernel_rfl) ⟨TysT_ok, Lf.FnsOk.look (.cons ih (.con (folioref01_kids_okP _ ih) .nil)), Lf.IpsOk.look .nil, TysTEq_ok, TysTIm_ok, Lf.IvsOk.look .nil, Lf.FxsOk.look .nil⟩ (by kernel_rfl) (by kernel_rfl) (by kernel_rfl) (by kernel_rfl) (by kernel_rfl) (Nat.le_of_ble_eq_true rfl) (by simp [Lf.Ty.top]) (by simp [Lf.Ty.top]) fun z r h => (folioref01_Nil_eq (folioref01_NilN n) z.1 z.2).trans h
noncomputable def folioref01_kids := folioref01_kidsP folioref01_NilEnt.2.f
noncomputable def folioref01_kidsEnt : Nat × Lf.Entry := (37, ⟨[.val (.sl vY18), .val (.int .i64)], [(.sl (.int .i64))], fun z => folioref01_kids z.1 z.2⟩)
theorem folioref01_kids_ok : Lf.EntryOk Proofs.Tryd.prog GG 37 folioref01_kidsEnt.2 := folioref01_kids_okP _ folioref01_Nil_ok
noncomputable def folioref01_faultsCtx (self : (List vT16) × ((Int) × (vT1 × ((Int) × (Bool)))) → Option (List ((Int) × vT11))) : Lf.Ctx := ⟨88, TysT, [folioref01_kidsEnt, (43, ⟨[.val (.sl vY18), .val (.int .i64), .val (.sl vY0), .val (.int .i64), .val .bool], [(.sl (.st vY14))], self⟩)], [10, 13, 14, 45, 53, 56, 78, 87], [], [(10, (.rw 43 (.st vY14))), (12, vY15), (13, (.rw 66 vY0)), (14, (.rw 43 (.st vY14))), (40, vY15), (45, (.rw 66 vY0)), (53, (.rw 66 vY0)), (56, (.rw 66 vY0)), (78, (.rw 43 (.st vY14))), (87, (.rw 43 (.st vY14)))], [], TysTEq, [], none, TysTIm, []⟩
noncomputable def folioref01_faultsCode : Go.Code := (Proofs.Tryd.f43.body).getD .skip
def folioref01_faultsAnn : Lf.Ann := (.seq .no (.seq .no (.seq (.join (.more .ret ⟨[], [], [(10, (.rw 43 (.st vY14)))], [], []⟩ (.one .nrm ⟨[0, 1], [], [(4, .bool), (3, (.int .i64)), (2, (.sl vY0))], [], []⟩)) (.seq .no (.seq .no (.cnd (.seq .no (.seq (.join (.one .nrm ⟨[2], [(12, .ref 12 [] 0)], [], [(12, 43, vY15)], []⟩) .no) .no)) .no)))) (.seq .no (.seq (.seq .no (.loop ⟨[4, 3, 2, 0, 72, 73], [], [(74, (.int .i64)), (14, (.rw 43 (.st vY14)))], [], []⟩ (.one (.ext 1) ⟨[], [], [(14, (.rw 43 (.st vY14)))], [], []⟩) .no)) .no)))))
noncomputable def folioref01_faultsB (self : (List vT16) × ((Int) × (vT1 × ((Int) × (Bool)))) → Option (List ((Int) × vT11))) (a0 : List vT16) (a1 : Int) (a2 : List ((List (UInt8)) × ((Int) × (Unit)))) (a3 : Int) (a4 : Bool) : Option (List ((Int) × vT11)) :=
 ((Lf.idx a0 a1)).bind fun r1 =>
 (bif (decide ((r1.1 : Int) = (0 : Int))) then (bif a4 then some (r1.2.1.1, (a3, (r1.2.1.2.2.1, (r1.2.1.2.2.2.1, (r1.2.1.2.2.2.2.1, (([] : List ((List (UInt8)) × ((Int) × (Unit)))), ()))))))
     else some (r1.2.1.1, (r1.2.1.2.1, (r1.2.1.2.2.1, (r1.2.1.2.2.2.1, (r1.2.1.2.2.2.2.1, (([] : List ((List (UInt8)) × ((Int) × (Unit)))), ()))))))).bind fun r2 =>
   ((Lf.app (24 : Nat) r2.2.2.2.2.2.1 a2)).bind fun r3 =>
   some (.inl ((r2.1, (r2.2.1, (r2.2.2.1, (r2.2.2.2.1, (r2.2.2.2.2.1, (r3, r2.2.2.2.2.2.2)))))) :: ([] : List ((Int) × vT11))))
   else bif (decide ((r1.1 : Int) = (1 : Int))) then ((Lf.app (24 : Nat) ([] : List ((List (UInt8)) × ((Int) × (Unit)))) a2)).bind fun r4 =>
   ((Lf.app (24 : Nat) r4 ((r1.2.2.1, (r1.2.2.2.1, ())) :: ([] : List ((List (UInt8)) × ((Int) × (Unit))))))).bind fun r5 =>
   some (.inr (a4, (a3, r5)))
   else bif (decide ((r1.1 : Int) = (2 : Int))) then bif (!a4) then some (.inr (true, (r1.2.2.2.1, a2)))
   else some (.inr (a4, (a3, a2)))
   else some (.inr (a4, (a3, a2))) : Option ((List ((Int) × vT11)) ⊕ ((Bool) × ((Int) × vT1)))).bind fun r6 =>
 Lf.onSum r6 (fun a7 =>
 some a7) (fun b8 =>
 ((Go.Fn.folioref01_kids a0 a1)).bind fun r9 =>
 (Lf.loopC (σ := (Int) × (List ((Int) × vT11))) (κ := List ((Int) × vT11)) (fun z10 =>
     bif (decide (z10.1 < (((List.length r9) : Nat) : Int))) then ((Lf.idx r9 z10.1)).bind fun r11 =>
     ((self (a0, (r11, (b8.2.2, (b8.2.1, b8.1)))))).bind fun r12 =>
     ((Lf.app (72 : Nat) z10.2 r12)).bind fun r13 =>
     some (.inl ((IntKind.wrap .i64 (z10.1 + (1 : Int))), r13))
     else some (.inr z10.2)) ((0 : Int), ([] : List ((Int) × vT11))) : Option (List ((Int) × vT11))).bind fun r14 =>
 some r14)
theorem folioref01_faults_eq (self : (List vT16) × ((Int) × (vT1 × ((Int) × (Bool)))) → Option (List ((Int) × vT11))) (a0 : List vT16) (a1 : Int) (a2 : List ((List (UInt8)) × ((Int) × (Unit)))) (a3 : Int) (a4 : Bool) : Lf.fnE (folioref01_faultsCtx self) folioref01_faultsCode folioref01_faultsAnn [.val (.sl vY18), .val (.int .i64), .val (.sl vY0), .val (.int .i64), .val .bool] [(.sl (.st vY14))] [.tmp 10] (a0, a1, a2, a3, a4) = folioref01_faultsB self a0 a1 a2 a3 a4 := by kernel_rfl
noncomputable def folioref01_faultsN : Nat → (List vT16) × ((Int) × (vT1 × ((Int) × (Bool)))) → Option (List ((Int) × vT11))
 | 0 => fun _ => none
 | n + 1 => fun z => folioref01_faultsB (folioref01_faultsN n) z.1 z.2.1 z.2.2.1 z.2.2.2.1 z.2.2.2.2
noncomputable def folioref01_faults (a0 : List vT16) (a1 : Int) (a2 : List ((List (UInt8)) × ((Int) × (Unit)))) (a3 : Int) (a4 : Bool) : Option (List ((Int) × vT11)) := Lf.supC fun n => folioref01_faultsN n (a0, a1, a2, a3, a4)
noncomputable def folioref01_faultsEnt : Nat × Lf.Entry := (43, ⟨[.val (.sl vY18), .val (.int .i64), .val (.sl vY0), .val (.int .i64), .val .bool], [(.sl (.st vY14))], fun z => folioref01_faults z.1 z.2.1 z.2.2.1 z.2.2.2.1 z.2.2.2.2⟩)
theorem folioref01_faults_ok : Lf.EntryOk Proofs.Tryd.prog GG 43 folioref01_faultsEnt.2 :=
  Lf.rec_ok (ps := [.val (.sl vY18), .val (.int .i64), .val (.sl vY0), .val (.int .i64), .val .bool]) (rs := [(.sl (.st vY14))]) (N := folioref01_faultsN) Proofs.Tryd.f43 (by kernel_rfl) (by kernel_rfl) (by kernel_rfl) (by simp [Lf.Ty.top]) (fun _ => rfl) fun n ih => Lf.fn_ok (c := folioref01_faultsCtx (folioref01_faultsN n)) (code := folioref01_faultsCode) (an := folioref01_faultsAnn) (slots := [.tmp 10]) (fn := Proofs.Tryd.f43) (by kernel_rfl) ⟨TysT_ok, Lf.FnsOk.look (.con folioref01_kids_ok (.cons ih .nil)), Lf.IpsOk.look .nil, TysTEq_ok, TysTIm_ok, Lf.IvsOk.look .nil, Lf.FxsOk.look .nil⟩ (by kernel_rfl) (by kernel_rfl) (by kernel_rfl) (by kernel_rfl) (by kernel_rfl) (Nat.le_of_ble_eq_true rfl) (by simp [Lf.Ty.top]) (by simp [Lf.Ty.top]) fun z r h => (folioref01_faults_eq (folioref01_faultsN n) z.1 z.2.1 z.2.2.1 z.2.2.2.1 z.2.2.2.2).trans h
noncomputable def folioref01_AllCtx : Lf.Ctx := ⟨60, TysT, [folioref01_NilEnt, folioref01_kidsEnt, folioref01_faultsEnt], [4, 5, 18, 31], [], [(4, (.rw 43 (.st vY14))), (5, (.rw 43 (.st vY14))), (6, vY15), (18, (.rw 43 (.st vY14))), (19, vY15), (31, (.rw 66 vY0))], [], TysTEq, [], none, TysTIm, []⟩
noncomputable def folioref01_AllCode : Go.Code := (Proofs.Tryd.f26.body).getD .skip
def folioref01_AllAnn : Lf.Ann := (.seq .no (.seq .no (.seq .no (.seq .no (.seq .no (.seq (.seq .no (.loop ⟨[0], [(6, .ref 6 [] 0)], [(7, (.int .i64))], [(6, 43, vY15)], []⟩ (.one (.ext 0) ⟨[], [(6, .ref 6 [] 0)], [], [(6, 43, vY15)], []⟩) (.seq .no (.seq (.join (.more .nrm ⟨[0, 8], [(6, .ref 6 [] 0)], [], [(6, 43, vY15)], []⟩ (.one (.ext 0) ⟨[], [(6, .ref 6 [] 0)], [], [(6, 43, vY15)], []⟩)) (.seq .no (.cnd (.draw 13) .no))) .no)))) .no))))))
noncomputable def folioref01_All (a0 : List vT16) (a1 : Int) : Option (List ((Int) × vT11)) :=
 ((Go.Fn.folioref01_Nil a0 a1)).bind fun r1 =>
 bif r1 then some ([] : List ((Int) × vT11))
 else ((Go.Fn.folioref01_faults a0 a1 ([] : List ((List (UInt8)) × ((Int) × (Unit)))) (0 : Int) false)).bind fun r2 =>
 bif (decide ((0 : Int) < (((List.length r2) : Nat) : Int))) then some r2
 else (Lf.loopC (σ := (Int) × ((Int) × vT11)) (κ := (Int) × vT11) (fun z3 =>
     ((Go.Fn.folioref01_kids a0 z3.1)).bind fun r4 =>
     (((Lf.idx a0 z3.1)).bind fun r5 =>
       bif (decide ((r5.1 : Int) = (1 : Int))) then ((Lf.idx a0 z3.1)).bind fun r6 =>
       ((Lf.idx a0 z3.1)).bind fun r7 =>
       ((Lf.app (24 : Nat) z3.2.2.2.2.2.2.1 ((r6.2.2.1, (r7.2.2.2.1, ())) :: ([] : List ((List (UInt8)) × ((Int) × (Unit))))))).bind fun r8 =>
       some (.inl (z3.2.1, (z3.2.2.1, (z3.2.2.2.1, (z3.2.2.2.2.1, (z3.2.2.2.2.2.1, (r8, z3.2.2.2.2.2.2.2)))))))
       else ((Lf.idx a0 z3.1)).bind fun r9 =>
       bif (decide ((r9.1 : Int) ≠ (2 : Int))) then some (.inr z3.2)
       else some (.inl z3.2) : Option (((Int) × vT11) ⊕ ((Int) × vT11))).bind fun r10 =>
     Lf.onSum r10 (fun a11 =>
     bif (decide (((((List.length r4) : Nat) : Int) : Int) ≠ (1 : Int))) then some (.inr a11)
     else ((Lf.idx r4 (0 : Int))).bind fun r12 =>
     some (.inl (r12, a11))) (fun b13 =>
     some (.inr b13))) (a1, ((10 : Int), ((0 : Int), ((0 : Int), ((0 : Int), (([] : List (UInt8)), (([] : List ((List (UInt8)) × ((Int) × (Unit)))), ()))))))) : Option ((Int) × vT11)).bind fun r14 =>
 some ((r14.1, (r14.2.1, (r14.2.2.1, (r14.2.2.2.1, (r14.2.2.2.2.1, (r14.2.2.2.2.2.1, r14.2.2.2.2.2.2)))))) :: ([] : List ((Int) × vT11)))
theorem folioref01_All_eq (a0 : List vT16) (a1 : Int) : Lf.fnE folioref01_AllCtx folioref01_AllCode folioref01_AllAnn [.val (.sl vY18), .val (.int .i64)] [(.sl (.st vY14))] [.tmp 4] (a0, a1) = folioref01_All a0 a1 := by kernel_rfl
noncomputable def folioref01_AllEnt : Nat × Lf.Entry := (26, ⟨[.val (.sl vY18), .val (.int .i64)], [(.sl (.st vY14))], fun z => folioref01_All z.1 z.2⟩)
theorem folioref01_All_ok : Lf.EntryOk Proofs.Tryd.prog GG 26 folioref01_AllEnt.2 :=
  Lf.fn_ok (c := folioref01_AllCtx) (code := folioref01_AllCode) (an := folioref01_AllAnn) (slots := [.tmp 4]) (fn := Proofs.Tryd.f26) (by kernel_rfl) ⟨TysT_ok, Lf.FnsOk.look (.con folioref01_Nil_ok (.con folioref01_kids_ok (.con folioref01_faults_ok .nil))), Lf.IpsOk.look .nil, TysTEq_ok, TysTIm_ok, Lf.IvsOk.look .nil, Lf.FxsOk.look .nil⟩ (by kernel_rfl) (by kernel_rfl) (by kernel_rfl) (by kernel_rfl) (by kernel_rfl) (Nat.le_of_ble_eq_true rfl) (by simp [Lf.Ty.top]) (by simp [Lf.Ty.top]) fun z r h => (folioref01_All_eq z.1 z.2).trans h
noncomputable def folioref01_ToldCtx : Lf.Ctx := ⟨16, TysT, [folioref01_AllEnt], [], [], [], [], TysTEq, [], none, TysTIm, []⟩
noncomputable def folioref01_ToldCode : Go.Code := (Proofs.Tryd.f19.body).getD .skip
def folioref01_ToldAnn : Lf.Ann := .no
noncomputable def folioref01_Told (a0 : List vT16) (a1 : Int) : Option ((Int) × vT11) :=
 ((Go.Fn.folioref01_All a0 a1)).bind fun r1 =>
 bif (decide (((((List.length r1) : Nat) : Int) : Int) = (0 : Int))) then some ((0 : Int), ((0 : Int), ((0 : Int), ((0 : Int), (([] : List (UInt8)), (([] : List ((List (UInt8)) × ((Int) × (Unit)))), ()))))))
 else ((Lf.idx r1 (0 : Int))).bind fun r2 =>
 some r2
theorem folioref01_Told_eq (a0 : List vT16) (a1 : Int) : Lf.fnE folioref01_ToldCtx folioref01_ToldCode folioref01_ToldAnn [.val (.sl vY18), .val (.int .i64)] [(.st vY14)] [.cell 4 43] (a0, a1) = folioref01_Told a0 a1 := by kernel_rfl
noncomputable def folioref01_ToldEnt : Nat × Lf.Entry := (19, ⟨[.val (.sl vY18), .val (.int .i64)], [(.st vY14)], fun z => folioref01_Told z.1 z.2⟩)
theorem folioref01_Told_ok : Lf.EntryOk Proofs.Tryd.prog GG 19 folioref01_ToldEnt.2 :=
  Lf.fn_ok (c := folioref01_ToldCtx) (code := folioref01_ToldCode) (an := folioref01_ToldAnn) (slots := [.cell 4 43]) (fn := Proofs.Tryd.f19) (by kernel_rfl) ⟨TysT_ok, Lf.FnsOk.look (.con folioref01_All_ok .nil), Lf.IpsOk.look .nil, TysTEq_ok, TysTIm_ok, Lf.IvsOk.look .nil, Lf.FxsOk.look .nil⟩ (by kernel_rfl) (by kernel_rfl) (by kernel_rfl) (by kernel_rfl) (by kernel_rfl) (Nat.le_of_ble_eq_true rfl) (by simp [Lf.Ty.top]) (by simp [Lf.Ty.top]) fun z r h => (folioref01_Told_eq z.1 z.2).trans h
noncomputable def folioref01_SomeCtx : Lf.Ctx := ⟨16, TysT, [folioref01_NilEnt, folioref01_faultsEnt], [], [], [], [], TysTEq, [], none, TysTIm, []⟩
noncomputable def folioref01_SomeCode : Go.Code := (Proofs.Tryd.f20.body).getD .skip
def folioref01_SomeAnn : Lf.Ann := (.seq .no (.seq (.join (.one .nrm ⟨[], [], [(4, .bool)], [], []⟩) .no) .no))
noncomputable def folioref01_Some (a0 : List vT16) (a1 : Int) : Option (Bool) :=
 (((Go.Fn.folioref01_Nil a0 a1)).bind fun r1 =>
   bif (!r1) then ((Go.Fn.folioref01_faults a0 a1 ([] : List ((List (UInt8)) × ((Int) × (Unit)))) (0 : Int) false)).bind fun r2 =>
   some (decide ((0 : Int) < (((List.length r2) : Nat) : Int)))
   else some false).bind fun r3 =>
 some r3
theorem folioref01_Some_eq (a0 : List vT16) (a1 : Int) : Lf.fnE folioref01_SomeCtx folioref01_SomeCode folioref01_SomeAnn [.val (.sl vY18), .val (.int .i64)] [.bool] [.tmp 4] (a0, a1) = folioref01_Some a0 a1 := by kernel_rfl
noncomputable def folioref01_SomeEnt : Nat × Lf.Entry := (20, ⟨[.val (.sl vY18), .val (.int .i64)], [.bool], fun z => folioref01_Some z.1 z.2⟩)
theorem folioref01_Some_ok : Lf.EntryOk Proofs.Tryd.prog GG 20 folioref01_SomeEnt.2 :=
  Lf.fn_ok (c := folioref01_SomeCtx) (code := folioref01_SomeCode) (an := folioref01_SomeAnn) (slots := [.tmp 4]) (fn := Proofs.Tryd.f20) (by kernel_rfl) ⟨TysT_ok, Lf.FnsOk.look (.con folioref01_Nil_ok (.con folioref01_faults_ok .nil)), Lf.IpsOk.look .nil, TysTEq_ok, TysTIm_ok, Lf.IvsOk.look .nil, Lf.FxsOk.look .nil⟩ (by kernel_rfl) (by kernel_rfl) (by kernel_rfl) (by kernel_rfl) (by kernel_rfl) (Nat.le_of_ble_eq_true rfl) (by simp [Lf.Ty.top]) (by simp [Lf.Ty.top]) fun z r h => (folioref01_Some_eq z.1 z.2).trans h
noncomputable def folioref01_SameCtx : Lf.Ctx := ⟨83, TysT, [], [], [], [], [], TysTEq, [], none, TysTIm, []⟩
noncomputable def folioref01_SameCode : Go.Code := (Proofs.Tryd.f21.body).getD .skip
def folioref01_SameAnn : Lf.Ann := (.seq .no (.seq (.seq (.join (.one .nrm ⟨[], [(3, .ref 3 [] 0), (2, .ref 2 [] 0)], [(47, .bool)], [(3, 43, (.st vY14)), (2, 43, (.st vY14))], []⟩) .no) .no) (.seq (.seq .no (.loop ⟨[50], [(3, .ref 3 [] 0), (2, .ref 2 [] 0)], [(51, (.int .i64))], [(3, 43, (.st vY14)), (2, 43, (.st vY14))], []⟩ (.more (.ext 0) ⟨[], [], [], [], []⟩ (.one .ret ⟨[], [], [(4, .bool)], [], []⟩)) (.seq .no (.seq .no (.seq (.seq .no (.seq (.join (.one .nrm ⟨[50, 51], [(3, .ref 3 [] 0), (2, .ref 2 [] 0)], [(81, .bool)], [(3, 43, (.st vY14)), (2, 43, (.st vY14))], []⟩) (.draw 28)) .no)) .no))))) .no)))
noncomputable def folioref01_Same (a0 : (Int) × vT11) (a1 : (Int) × vT11) : Option (Bool) :=
 (bif (!(decide ((a0.1 : Int) ≠ a1.1))) then bif (!(decide ((a0.2.1 : Int) ≠ a1.2.1))) then bif (!(decide ((a0.2.2.1 : Int) ≠ a1.2.2.1))) then bif (!(decide ((a0.2.2.2.1 : Int) ≠ a1.2.2.2.1))) then bif (!(decide ((a0.2.2.2.2.1 : List (UInt8)) ≠ a1.2.2.2.2.1))) then some ((decide (((((List.length a0.2.2.2.2.2.1) : Nat) : Int) : Int) ≠ (((List.length a1.2.2.2.2.2.1) : Nat) : Int))), (a1, a0))
   else some (true, (a1, a0))
   else some (true, (a1, a0))
   else some (true, (a1, a0))
   else some (true, (a1, a0))
   else some (true, (a1, a0))).bind fun r1 =>
 bif r1.1 then some false
 else (Lf.loopC (σ := (Int) × (((Int) × vT11) × ((Int) × vT11))) (κ := (Unit) ⊕ (Bool)) (fun z2 =>
     bif (decide (z2.1 < (((List.length r1.2.2.2.2.2.2.2.1) : Nat) : Int))) then (((Lf.idx z2.2.2.2.2.2.2.2.1 z2.1)).bind fun r3 =>
       ((Lf.idx z2.2.1.2.2.2.2.2.1 z2.1)).bind fun r4 =>
       bif (!(decide ((r3.1 : List (UInt8)) ≠ r4.1))) then ((Lf.idx z2.2.2.2.2.2.2.2.1 z2.1)).bind fun r5 =>
       ((Lf.idx z2.2.1.2.2.2.2.2.1 z2.1)).bind fun r6 =>
       some ((decide ((r5.2.1 : Int) ≠ r6.2.1)), (z2.2.1, z2.2.2))
       else some (true, (z2.2.1, z2.2.2))).bind fun r7 =>
     bif r7.1 then some (.inr (.inr false))
     else some (.inl ((IntKind.wrap .i64 (z2.1 + (1 : Int))), (r7.2.1, r7.2.2)))
     else some (.inr (.inl ()))) ((0 : Int), (r1.2.1, r1.2.2)) : Option ((Unit) ⊕ (Bool))).bind fun r8 =>
 Lf.onSum r8 (fun _ =>
 some true) (fun b10 =>
 some b10)
theorem folioref01_Same_eq (a0 : (Int) × vT11) (a1 : (Int) × vT11) : Lf.fnE folioref01_SameCtx folioref01_SameCode folioref01_SameAnn [.val (.st vY14), .val (.st vY14)] [.bool] [.tmp 4] (a0, a1) = folioref01_Same a0 a1 := by kernel_rfl
noncomputable def folioref01_SameEnt : Nat × Lf.Entry := (21, ⟨[.val (.st vY14), .val (.st vY14)], [.bool], fun z => folioref01_Same z.1 z.2⟩)
theorem folioref01_Same_ok : Lf.EntryOk Proofs.Tryd.prog GG 21 folioref01_SameEnt.2 :=
  Lf.fn_ok (c := folioref01_SameCtx) (code := folioref01_SameCode) (an := folioref01_SameAnn) (slots := [.tmp 4]) (fn := Proofs.Tryd.f21) (by kernel_rfl) ⟨TysT_ok, Lf.FnsOk.look .nil, Lf.IpsOk.look .nil, TysTEq_ok, TysTIm_ok, Lf.IvsOk.look .nil, Lf.FxsOk.look .nil⟩ (by kernel_rfl) (by kernel_rfl) (by kernel_rfl) (by kernel_rfl) (by kernel_rfl) (Nat.le_of_ble_eq_true rfl) (by simp [Lf.Ty.top]) (by simp [Lf.Ty.top]) fun z r h => (folioref01_Same_eq z.1 z.2).trans h
noncomputable def folioref01_AtCtx : Lf.Ctx := ⟨17, TysT, [], [], [], [], [], TysTEq, [], none, TysTIm, []⟩
noncomputable def folioref01_AtCode : Go.Code := (Proofs.Tryd.f32.body).getD .skip
def folioref01_AtAnn : Lf.Ann := .no
noncomputable def folioref01_At (a0 : Int) (a1 : Int) (a2 : Int) (a3 : Int) (a4 : List (UInt8)) : Option ((Int) × vT11) :=
 some (a0, (a1, (a2, (a3, (a4, (([] : List ((List (UInt8)) × ((Int) × (Unit)))), ()))))))
theorem folioref01_At_eq (a0 : Int) (a1 : Int) (a2 : Int) (a3 : Int) (a4 : List (UInt8)) : Lf.fnE folioref01_AtCtx folioref01_AtCode folioref01_AtAnn [.val (.int .i64), .val (.int .i64), .val (.int .i64), .val (.int .i64), .val .str] [(.st vY14)] [.cell 10 43] (a0, a1, a2, a3, a4) = folioref01_At a0 a1 a2 a3 a4 := by kernel_rfl
noncomputable def folioref01_AtEnt : Nat × Lf.Entry := (32, ⟨[.val (.int .i64), .val (.int .i64), .val (.int .i64), .val (.int .i64), .val .str], [(.st vY14)], fun z => folioref01_At z.1 z.2.1 z.2.2.1 z.2.2.2.1 z.2.2.2.2⟩)
theorem folioref01_At_ok : Lf.EntryOk Proofs.Tryd.prog GG 32 folioref01_AtEnt.2 :=
  Lf.fn_ok (c := folioref01_AtCtx) (code := folioref01_AtCode) (an := folioref01_AtAnn) (slots := [.cell 10 43]) (fn := Proofs.Tryd.f32) (by kernel_rfl) ⟨TysT_ok, Lf.FnsOk.look .nil, Lf.IpsOk.look .nil, TysTEq_ok, TysTIm_ok, Lf.IvsOk.look .nil, Lf.FxsOk.look .nil⟩ (by kernel_rfl) (by kernel_rfl) (by kernel_rfl) (by kernel_rfl) (by kernel_rfl) (Nat.le_of_ble_eq_true rfl) (by simp [Lf.Ty.top]) (by simp [Lf.Ty.top]) fun z r h => (folioref01_At_eq z.1 z.2.1 z.2.2.1 z.2.2.2.1 z.2.2.2.2).trans h
noncomputable def foliolaw01_bareCtx : Lf.Ctx := ⟨12, TysT, [folioref01_AtEnt], [], [], [], [], TysTEq, [], none, TysTIm, []⟩
noncomputable def foliolaw01_bareCode : Go.Code := (Proofs.Tryd.f22.body).getD .skip
def foliolaw01_bareAnn : Lf.Ann := .no
noncomputable def foliolaw01_bare (a0 : (Int) × vT11) : Option ((Int) × vT11) :=
 ((Go.Fn.folioref01_At a0.1 (0 : Int) a0.2.2.1 a0.2.2.2.1 a0.2.2.2.2.1)).bind fun r1 =>
 some r1
theorem foliolaw01_bare_eq (a0 : (Int) × vT11) : Lf.fnE foliolaw01_bareCtx foliolaw01_bareCode foliolaw01_bareAnn [.val (.st vY14)] [(.st vY14)] [.cell 2 43] (a0) = foliolaw01_bare a0 := by kernel_rfl
noncomputable def foliolaw01_bareEnt : Nat × Lf.Entry := (22, ⟨[.val (.st vY14)], [(.st vY14)], fun z => foliolaw01_bare z⟩)
theorem foliolaw01_bare_ok : Lf.EntryOk Proofs.Tryd.prog GG 22 foliolaw01_bareEnt.2 :=
  Lf.fn_ok (c := foliolaw01_bareCtx) (code := foliolaw01_bareCode) (an := foliolaw01_bareAnn) (slots := [.cell 2 43]) (fn := Proofs.Tryd.f22) (by kernel_rfl) ⟨TysT_ok, Lf.FnsOk.look (.con folioref01_At_ok .nil), Lf.IpsOk.look .nil, TysTEq_ok, TysTIm_ok, Lf.IvsOk.look .nil, Lf.FxsOk.look .nil⟩ (by kernel_rfl) (by kernel_rfl) (by kernel_rfl) (by kernel_rfl) (by kernel_rfl) (Nat.le_of_ble_eq_true rfl) (by simp [Lf.Ty.top]) (by simp [Lf.Ty.top]) fun z r h => (foliolaw01_bare_eq z).trans h
end Go.Fn
/- Chapter 1, plainly: which lists may be gone through. -/
namespace Go.Fn
open Go Go.Lf Go.Eng Go.Proofs
abbrev NodeD : Type := Int × ((Int × (Int × (Int × (Int × (List UInt8 × (List (List UInt8 × (Int × Unit)) × Unit)))))) × (List UInt8 × (Int × (List Int × Unit))))
abbrev nCode (n : NodeD) : Int := n.2.1.1
abbrev nSrc (n : NodeD) : Int := n.2.1.2.1
abbrev nLine (n : NodeD) : Int := n.2.1.2.2.1
abbrev nCol (n : NodeD) : Int := n.2.1.2.2.2.1
abbrev nWord (n : NodeD) : List UInt8 := n.2.1.2.2.2.2.1
abbrev nLayer (n : NodeD) : List UInt8 := n.2.2.1
abbrev nWhat (n : NodeD) : Int := n.2.2.2.1
abbrev nKids (n : NodeD) : List Int := n.2.2.2.2.1
structure NWf (L : List NodeD) : Prop where
 len : L.length ≤ 1099511627776
 kids : ∀ n ∈ L, (nKids n).length ≤ 17592186044416
 word : ∀ n ∈ L, (nWord n).length ≤ 140737488355328
 layer : ∀ n ∈ L, (nLayer n).length ≤ 140737488355328
def sumK (f : Nat → Int) (ks : List Int) : Int := (ks.map fun k => f k.toNat + 2).sum
def sumW (f : Nat → Int) (ks : List Int) : Int := (ks.map fun k => f k.toNat).sum
structure Fit1 (L : List NodeD) (tx : Nat → Int) (i : Nat) : Prop where
 kid : ∀ n, L[i]? = some n → ∀ k ∈ nKids n, 0 ≤ k ∧ k < i
 num : ∀ n, L[i]? = some n → (nKids n).length ≤ 20000
 text : ∀ n, L[i]? = some n → tx i = 60 + (nWord n).length + (nLayer n).length + sumK tx (nKids n)
 le : 0 ≤ tx i ∧ tx i ≤ 1000000
theorem chk_nat {n i : Nat} (h : i < n) : chk n (i : Int) = some i := by unfold chk; rw [if_pos (by omega)]; rfl
theorem chk_int {n : Nat} {i : Int} (h0 : 0 ≤ i) (h : i < n) : chk n i = some i.toNat := by unfold chk; rw [if_pos ⟨h0, h⟩]
theorem nth_D {l : List Int} {n : Nat} (h : n < l.length) : nth l n = some (l.getD n 0) := by unfold nth; rw [List.getElem?_eq_getElem h, List.getD_eq_getElem?_getD, List.getElem?_eq_getElem h]; rfl
theorem getD_set_self {l : List Int} {n : Nat} {x : Int} (h : n < l.length) : (l.set n x).getD n 0 = x := by simp [List.getD_eq_getElem?_getD, h]
theorem getD_set_ne' {l : List Int} {n m : Nat} {x : Int} (h : n ≠ m) : (l.set n x).getD m 0 = l.getD m 0 := by simp [List.getD_eq_getElem?_getD, h]
theorem sumK_snoc (f : Nat → Int) (l : List Int) (k : Int) : sumK f (l ++ [k]) = sumK f l + (f k.toNat + 2) := by simp [sumK]
theorem sumW_snoc (f : Nat → Int) (l : List Int) (k : Int) : sumW f (l ++ [k]) = sumW f l + f k.toNat := by simp [sumW]
theorem sumK_congr {f g : Nat → Int} {l : List Int} (h : ∀ k ∈ l, f k.toNat = g k.toNat) : sumK f l = sumK g l := by
 unfold sumK
 rw [List.map_congr_left fun k hk => by rw [h k hk]]
structure InI (L : List NodeD) (i : Nat) (n : NodeD) (T0 W0 : List Int) (j : Nat) (s : List Int × List Int) : Prop where
 lt : s.1.length = L.length
 lw : s.2.length = L.length
 kid : ∀ k ∈ (nKids n).take j, 0 ≤ k ∧ k < i
 ot : ∀ m, m ≠ i → s.1.getD m 0 = T0.getD m 0
 ow : ∀ m, m ≠ i → s.2.getD m 0 = W0.getD m 0
 w : s.2.getD i 0 = 1 + sumW (fun m => W0.getD m 0) ((nKids n).take j)
 wb : 1 + (j : Int) ≤ s.2.getD i 0 ∧ s.2.getD i 0 ≤ 1 + 20000 * j
 t : j ≤ 20000 → s.1.getD i 0 = 60 + (nWord n).length + (nLayer n).length + sumK (fun m => T0.getD m 0) ((nKids n).take j) ∧ s.1.getD i 0 ≤ 281474976710716 + 1000002 * j ∧ 0 ≤ s.1.getD i 0
structure OutI (L : List NodeD) (i : Nat) (s : List Int × List Int) : Prop where
 lt : s.1.length = L.length
 lw : s.2.length = L.length
 fit : ∀ j, j < i → Fit1 L (fun m => s.1.getD m 0) j
 w : ∀ j, j < i → 1 ≤ s.2.getD j 0 ∧ s.2.getD j 0 ≤ 20000
set_option maxHeartbeats 1000000 in
theorem fits_ok (L : List NodeD) (hw : NWf L) : OkP False (foliolaw01_fits L) fun b => b = true → L.length ≤ 200 ∧ ∃ tx : Nat → Int, ∀ i, i < L.length → Fit1 L tx i := by
 have hlen := hw.len
 unfold foliolaw01_fits
 have hmk : made (8 : Nat) (0 : Int) ((L.length : Nat) : Int) ((L.length : Nat) : Int) = some (List.replicate L.length (0 : Int)) := by
  unfold made
  rw [if_pos ⟨by omega, rfl, by omega⟩]
  rfl
 refine OkP.bind (Q := fun r => r = List.replicate L.length (0 : Int)) (OkP.of hmk rfl) fun r1 hr1 => ?_
 refine OkP.bind (Q := fun r => r = List.replicate L.length (0 : Int)) (OkP.of hmk rfl) fun r2 hr2 => ?_
 subst hr1 hr2
 refine OkP.bind (Q := fun r => match r with | .inl _ => ∃ tx : Nat → Int, ∀ i, i < L.length → Fit1 L tx i | .inr b => b = false) ?_ fun r hr => ?_
 ·refine OkP.loop (fun m z => ∃ i : Nat, i + m = L.length ∧ z.2.2 = (i : Int) ∧ OutI L i (z.1, z.2.1)) (fun m z hz => ?_) L.length _ ⟨0, by omega, rfl, ⟨List.length_replicate, List.length_replicate, fun j h => absurd h (by omega), fun j h => absurd h (by omega)⟩⟩
  obtain ⟨i, hi, hz1, hO⟩ := hz
  obtain ⟨T0, W0, z3⟩ := z
  simp only at hz1 hO
  subst hz1
  by_cases hlt : i < L.length
  ·obtain ⟨n, hn⟩ : ∃ n, L[i]? = some n := ⟨L[i], List.getElem?_eq_getElem hlt⟩
   have hnm := List.mem_of_getElem? hn
   have hkl := hw.kids n hnm
   have hwl := hw.word n hnm
   have hll := hw.layer n hnm
   have hTl : T0.length = L.length := hO.lt
   have hWl : W0.length = L.length := hO.lw
   have hb : decide ((i : Int) < ((List.length L : Nat) : Int)) = true := by simp; omega
   simp only [hb, cond_true, idx_nat, hn, Option.bind_some]
   rw [chk_nat (by omega : i < W0.length)]
   simp only [Option.bind_some]
   rw [nth_D (by omega : i < W0.length)]
   simp only [Option.bind_some]
   rw [chk_nat (by omega : i < T0.length)]
   simp only [Option.bind_some]
   rw [nth_D (by omega : i < T0.length)]
   simp only [Option.bind_some]
   refine OkP.bind (Q := fun r => match r with | .inl s => InI L i n T0 W0 (nKids n).length s | .inr b => b = false) ?_ fun r hr => ?_
   ·refine OkP.range (nKids n) (InI L i n T0 W0) (fun j k s hk hI => ?_) (fun s hI => ?_) ?_
    ·obtain ⟨T, W⟩ := s
     have hjl := (List.getElem?_eq_some_iff.1 hk).1
     have hb : decide ((j : Int) < ((List.length (nKids n) : Nat) : Int)) = true := by simp; omega
     have htk : (nKids n).take (j + 1) = (nKids n).take j ++ [k] := by rw [List.take_add_one, hk]; rfl
     simp only [hb, cond_true, idx_nat, hk, Option.bind_some]
     by_cases hk0 : k < 0
     ·simp only [hk0, decide_true, Bool.not_true, cond_false, cond_true, Option.bind_some]
      exact OkP.of rfl rfl
     by_cases hki : (i : Int) ≤ k
     ·simp only [hk0, hki, decide_false, decide_true, Bool.not_false, cond_true, Option.bind_some]
      exact OkP.of rfl rfl
     ·have hlT : T.length = L.length := hI.lt
      have hlW : W.length = L.length := hI.lw
      simp only [hk0, hki, decide_false, Bool.not_false, cond_true, cond_false, Option.bind_some]
      simp only [chk_nat (by omega : i < W.length), chk_nat (by omega : i < T.length), chk_int (by omega : 0 ≤ k) (by omega : k < (W.length : Nat)), chk_int (by omega : 0 ≤ k) (by omega : k < (T.length : Nat)), nth_D (by omega : i < W.length), nth_D (by omega : i < T.length), nth_D (by omega : k.toNat < W.length), nth_D (by omega : k.toNat < T.length), Option.bind_some]
      have hne : k.toNat ≠ i := by omega
      have hwk := hO.w k.toNat (by omega)
      have htk1 := (hO.fit k.toNat (by omega)).le
      simp only at hwk htk1
      have hTk : T.getD k.toNat 0 = T0.getD k.toNat 0 := hI.ot _ hne
      have hWk : W.getD k.toNat 0 = W0.getD k.toNat 0 := hI.ow _ hne
      obtain ⟨wb1, wb2⟩ := hI.wb
      have hw0 := hI.w
      simp only at wb1 wb2 hw0
      have hnew : IntKind.wrap .i64 (W.getD i 0 + W.getD k.toNat 0) = W.getD i 0 + W.getD k.toNat 0 := wrap64 (by omega) (by omega)
      refine OkP.of rfl ⟨wrapS (by omega), ⟨by simp [hlT], by simp [hlW], fun k' hk' => ?_, fun m hm => ?_, fun m hm => ?_, ?_, ?_, fun hj => ?_⟩⟩
      ·rw [htk] at hk'
       rcases List.mem_append.1 hk' with h | h
       ·exact hI.kid k' h
       ·have : k' = k := by simpa using h
        subst this
        omega
      ·exact (getD_set_ne' (Ne.symm hm)).trans (hI.ot m hm)
      ·exact (getD_set_ne' (Ne.symm hm)).trans (hI.ow m hm)
      ·show (W.set i _).getD i 0 = _
       rw [getD_set_self (by omega), hnew, htk, sumW_snoc, hw0, hWk]
       omega
      ·show 1 + ((j + 1 : Nat) : Int) ≤ (W.set i _).getD i 0 ∧ (W.set i _).getD i 0 ≤ _
       rw [getD_set_self (by omega), hnew, hWk]
       omega
      ·obtain ⟨t1, t2, t3⟩ := hI.t (by omega)
       simp only at t1 t2 t3
       have e1 : IntKind.wrap .i64 (T.getD k.toNat 0 + (2 : Int)) = T.getD k.toNat 0 + 2 := wrap64 (by omega) (by omega)
       have e2 : IntKind.wrap .i64 (T.getD i 0 + (T.getD k.toNat 0 + 2)) = T.getD i 0 + (T.getD k.toNat 0 + 2) := wrap64 (by omega) (by omega)
       show (T.set i _).getD i 0 = _ ∧ (T.set i _).getD i 0 ≤ _ ∧ 0 ≤ (T.set i _).getD i 0
       rw [getD_set_self (by omega), e1, e2, htk, sumK_snoc, hTk]
       refine ⟨?_, ?_, ?_⟩
       ·rw [t1]; omega
       ·omega
       ·omega
    ·simp only [Int.lt_irrefl, decide_false, cond_false]
     exact OkP.of rfl hI
    ·have e1 : IntKind.wrap .i64 ((60 : Int) + (((List.length (nWord n)) : Nat) : Int)) = 60 + ((nWord n).length : Int) := wrap64 (by omega) (by omega)
     have e2 : IntKind.wrap .i64 (60 + ((nWord n).length : Int) + (((List.length (nLayer n)) : Nat) : Int)) = 60 + ((nWord n).length : Int) + ((nLayer n).length : Int) := wrap64 (by omega) (by omega)
     refine ⟨by simp [hTl], by simp [hWl], by simp, fun m hm => getD_set_ne' (Ne.symm hm), fun m hm => getD_set_ne' (Ne.symm hm), ?_, ?_, fun _ => ?_⟩
     ·show (W0.set i _).getD i 0 = _
      rw [getD_set_self (by omega)]
      simp [sumW]
     ·show 1 + ((0 : Nat) : Int) ≤ (W0.set i _).getD i 0 ∧ (W0.set i _).getD i 0 ≤ _
      rw [getD_set_self (by omega)]
      omega
     ·show (T0.set i _).getD i 0 = _ ∧ (T0.set i _).getD i 0 ≤ _ ∧ 0 ≤ (T0.set i _).getD i 0
      rw [getD_set_self (by omega)]
      have e3 : IntKind.wrap .i64 (IntKind.wrap .i64 ((60 : Int) + (((List.length (nWord n)) : Nat) : Int)) + (((List.length (nLayer n)) : Nat) : Int)) = 60 + ((nWord n).length : Int) + ((nLayer n).length : Int) := by rw [e1, e2]
      rw [e3]
      refine ⟨by simp [sumK], by omega, by omega⟩
   ·cases r with
    | inr b =>
     have hr : b = false := hr
     subst hr
     exact OkP.of rfl rfl
    | inl s =>
     obtain ⟨T, W⟩ := s
     have hI : InI L i n T0 W0 (nKids n).length (T, W) := hr
     have hlT : T.length = L.length := hI.lt
     have hlW : W.length = L.length := hI.lw
     simp only [onSum, chk_nat (by omega : i < W.length), chk_nat (by omega : i < T.length), nth_D (by omega : i < W.length), nth_D (by omega : i < T.length), Option.bind_some]
     by_cases h1 : (20000 : Int) < W.getD i 0
     ·simp only [h1, decide_true, Bool.not_true, cond_false, cond_true, Option.bind_some]
      exact OkP.of rfl rfl
     by_cases h2 : (1000000 : Int) < T.getD i 0
     ·simp only [h1, h2, decide_false, decide_true, Bool.not_false, cond_true, Option.bind_some]
      exact OkP.of rfl rfl
     ·simp only [h1, h2, decide_false, Bool.not_false, cond_true, cond_false, Option.bind_some]
      obtain ⟨wb1, wb2⟩ := hI.wb
      simp only at wb1 wb2
      have hkn : (nKids n).length ≤ 20000 := by omega
      obtain ⟨t1, _, t3⟩ := hI.t hkn
      have hkid := hI.kid
      rw [List.take_length] at t1 hkid
      simp only at t1 t3
      refine OkP.of rfl ⟨m - 1, by omega, i + 1, by omega, wrapS (by omega), ⟨hlT, hlW, fun j hj => ?_, fun j hj => ?_⟩⟩
      ·by_cases hji : j = i
       ·subst hji
        refine ⟨fun n' hn' => ?_, fun n' hn' => ?_, fun n' hn' => ?_, t3, by show T.getD j 0 ≤ _; omega⟩
        ·rw [hn] at hn'; injection hn' with e; subst e
         exact hkid
        ·rw [hn] at hn'; injection hn' with e; subst e
         exact hkn
        ·rw [hn] at hn'; injection hn' with e; subst e
         show T.getD j 0 = _
         rw [t1]
         congr 1
         exact sumK_congr fun k hk => (hI.ot _ (by have := hkid k hk; omega)).symm
       ·have hF := hO.fit j (by omega)
        have hjT : T.getD j 0 = T0.getD j 0 := hI.ot j hji
        refine ⟨hF.kid, hF.num, fun n' hn' => ?_, ?_⟩
        ·show T.getD j 0 = _
         rw [hjT]
         refine (hF.text n' hn').trans ?_
         congr 1
         exact sumK_congr fun k hk => (hI.ot _ (by have := hF.kid n' hn' k hk; omega)).symm
        ·show 0 ≤ T.getD j 0 ∧ T.getD j 0 ≤ _
         rw [hjT]
         exact hF.le
      ·by_cases hji : j = i
       ·subst hji
        exact ⟨by show 1 ≤ W.getD j 0; omega, by show W.getD j 0 ≤ _; omega⟩
       ·show 1 ≤ W.getD j 0 ∧ W.getD j 0 ≤ _
        have : W.getD j 0 = W0.getD j 0 := hI.ow j hji
        rw [this]
        exact hO.w j (by omega)
  ·have hb : decide ((i : Int) < ((List.length L : Nat) : Int)) = false := by simp; omega
   simp only [hb, cond_false]
   exact OkP.of rfl ⟨_, fun j hj => hO.fit j (by omega)⟩
 ·cases r with
  | inl u =>
   refine OkP.of rfl fun h => ?_
   have h := of_decide_eq_true h
   exact ⟨by omega, hr⟩
  | inr b =>
   have hr : b = false := hr
   subst hr
   exact OkP.of rfl fun h => by cases h
end Go.Fn
/- Chapter 1, plainly: the errors of a list. -/
namespace Go.Fn
open Go Go.Lf Go.Eng Go.Proofs
def firstV : List Vw → Vw
 | [] => .nil
 | v :: _ => v
def joinV (ks : List Vw) : Vw := match ks.filter fun v => !v.isNil with
 | [] => .nil
 | l => .join l
def mkV (n : NodeD) (ks : List Vw) : Vw :=
 if n.1 = 0 then (if nCode n = 0 then .nil else .new (nCode n) (nSrc n) (nLine n) (nCol n) (nWord n))
 else if n.1 = 1 then (bif (firstV ks).isNil then .nil else .und (nLayer n) (nWhat n) (firstV ks))
 else if n.1 = 2 then (bif (firstV ks).isNil then .nil else .inn (nWhat n) (firstV ks))
 else if n.1 = 3 then joinV ks
 else if n.1 = 4 then .plain (nLayer n)
 else if n.1 = 5 then .wrap (nLayer n) (firstV ks)
 else if n.1 = 6 then .many (nLayer n) ks
 else .nil
def kidV (vs : List Vw) (n : NodeD) : List Vw := (nKids n).map fun k => vs.getD k.toNat .nil
def Vs (L : List NodeD) : List Vw := L.foldl (fun vs n => vs ++ [mkV n (kidV vs n)]) []
theorem Vs_snoc (L : List NodeD) (n : NodeD) : Vs (L ++ [n]) = Vs L ++ [mkV n (kidV (Vs L) n)] := by unfold Vs; rw [List.foldl_append]; rfl
theorem Vs_take (L : List NodeD) {i : Nat} {n : NodeD} (h : L[i]? = some n) : Vs (L.take (i + 1)) = Vs (L.take i) ++ [mkV n (kidV (Vs (L.take i)) n)] := by
 rw [List.take_add_one, h]
 exact Vs_snoc _ _
theorem Vs_len (L : List NodeD) : ∀ i, i ≤ L.length → (Vs (L.take i)).length = i
 | 0, _ => by simp [Vs]
 | i + 1, h => by
  rw [Vs_take L (List.getElem?_eq_getElem (by omega : i < L.length)), List.length_append, Vs_len L i (by omega)]
  rfl
theorem Vs_pre (L : List NodeD) {i : Nat} : ∀ m, i + m ≤ L.length → (Vs (L.take (i + m))).take i = Vs (L.take i)
 | 0, h => by
  have := Vs_len L i h
  rw [Nat.add_zero]
  exact List.take_of_length_le (by omega)
 | m + 1, h => by
  rw [show i + (m + 1) = i + m + 1 by omega, Vs_take L (List.getElem?_eq_getElem (by omega : i + m < L.length)), List.take_append_of_le_length (by rw [Vs_len L _ (by omega)]; omega)]
  exact Vs_pre L m (by omega)
theorem Vs_full (L : List NodeD) : Vs (L.take L.length) = Vs L := by rw [List.take_length]
theorem Vs_length (L : List NodeD) : (Vs L).length = L.length := by have := Vs_len L L.length (Nat.le_refl _); rwa [Vs_full] at this
theorem Vs_getD (L : List NodeD) {i j : Nat} (hi : i ≤ L.length) (hj : j < i) : (Vs (L.take i)).getD j .nil = (Vs L).getD j .nil := by
 have h := Vs_pre L (i := i) (L.length - i) (by omega)
 rw [show i + (L.length - i) = L.length by omega, Vs_full] at h
 rw [← h]
 simp [List.getD_eq_getElem?_getD, hj]
theorem Vs_get (L : List NodeD) {i : Nat} {n : NodeD} (h : L[i]? = some n) (hk : ∀ k ∈ nKids n, 0 ≤ k ∧ k < i) : (Vs L)[i]? = some (mkV n (kidV (Vs L) n)) := by
 have hlt := (List.getElem?_eq_some_iff.1 h).1
 have e1 : kidV (Vs (L.take i)) n = kidV (Vs L) n := List.map_congr_left fun k hk' => Vs_getD L (by omega) (by have := hk k hk'; omega)
 have e2 := Vs_take L h
 have e3 := Vs_pre L (i := i + 1) (L.length - (i + 1)) (by omega)
 rw [show i + 1 + (L.length - (i + 1)) = L.length by omega, Vs_full, e2] at e3
 have e4 := congrArg (fun l => l[i]?) e3
 simp only [List.getElem?_take, Nat.lt_succ_self, if_true] at e4
 rw [e4, List.getElem?_append_right (by rw [Vs_len L i (by omega)]; omega), Vs_len L i (by omega), e1]
 simp
theorem enc_first (ks : List Vw) : foliolaw01_first (encs ks) = some (enc (firstV ks)) := by
 cases ks with
 | nil => rfl
 | cons v r =>
  unfold foliolaw01_first
  have : decide ((((List.length (encs (v :: r)) : Nat) : Int) : Int) = (0 : Int)) = false := decide_eq_false (by simp [encs]; omega)
  simp only [this, cond_false]
  rfl
theorem under_ok (v : Vw) (la : List UInt8) (wh : Int) : fault_Under (enc v) la wh = some (enc (bif v.isNil then .nil else .und la wh v)) := by
 unfold fault_Under
 rw [enc_nil]
 cases v.isNil <;> rfl
theorem in_ok (v : Vw) (s : Int) : fault_In (enc v) s = some (enc (bif v.isNil then .nil else .inn s v)) := by
 unfold fault_In
 rw [enc_nil]
 cases v.isNil <;> rfl
theorem new_ok (c s l o : Int) (w : List UInt8) : fault_New c s l o w = some (enc (if c = 0 then .nil else .new c s l o w)) := by
 unfold fault_New
 by_cases h : c = 0
 ·simp only [h, decide_true, cond_true, if_true]; rfl
 ·simp only [h, decide_false, cond_false, if_false]; rfl
theorem encs_app (l m : List Vw) : encs (l ++ m) = encs l ++ encs m := by simp [encs_map]
theorem encs_len (l : List Vw) : (encs l).length = l.length := by simp [encs_map]
theorem encs_get (l : List Vw) (i : Nat) : (encs l)[i]? = l[i]?.map enc := by rw [encs_map, List.getElem?_map]
theorem join_ok (ks : List Vw) (hl : ks.length ≤ 1048576) : fault_Join (encs ks) = some (enc (joinV ks)) := by
 unfold fault_Join
 refine OkP.eq ?_
 refine OkP.bind (Q := fun r => r = encs (ks.filter fun v => !v.isNil)) ?_ fun r hr => ?_
 ·refine OkP.range (encs ks) (fun i s => s = encs ((ks.take i).filter fun v => !v.isNil)) (fun i x s hx hs => ?_) (fun s hs => ?_) rfl
  ·subst hs
   rw [encs_get] at hx
   obtain ⟨v, hv, rfl⟩ := Option.map_eq_some_iff.1 hx
   have hlt := (List.getElem?_eq_some_iff.1 hv).1
   have hlen : (encs ks).length = ks.length := encs_len ks
   have hg : (encs ks)[i]? = some (enc v) := by rw [encs_get, hv]; rfl
   have hb : decide ((i : Int) < ((encs ks).length : Int)) = true := by simp [hlen]; omega
   have hf : ((ks.take i).filter fun v => !v.isNil).length ≤ i := Nat.le_trans (List.length_filter_le _ _) (by rw [List.length_take]; omega)
   have ht : ks.take (i + 1) = ks.take i ++ [v] := by rw [List.take_add_one, hv]; rfl
   simp only [hb, cond_true, idx_nat, hg, Option.bind_some, enc_nil]
   cases hn : v.isNil with
   | true =>
    simp only [Bool.not_true, cond_false, Option.bind_some]
    refine OkP.of rfl ⟨wrapS (by omega), ?_⟩
    rw [ht, List.filter_append]
    simp [hn]
   | false =>
    simp only [Bool.not_false, cond_true]
    rw [app_of (by rw [encs_len]; simp; omega)]
    simp only [Option.bind_some]
    refine OkP.of rfl ⟨wrapS (by omega), ?_⟩
    rw [ht, List.filter_append, encs_app]
    simp [hn, encs]
  ·subst hs
   simp only [Int.lt_irrefl, decide_false, cond_false]
   refine OkP.of rfl ?_
   rw [encs_len, List.take_length]
 ·subst hr
  unfold joinV
  cases hk : ks.filter fun v => !v.isNil with
  | nil => exact OkP.of rfl rfl
  | cons v r =>
   have : decide ((((List.length (encs (v :: r)) : Nat) : Int) : Int) = (0 : Int)) = false := decide_eq_false (by simp [encs]; omega)
   simp only [this, cond_false]
   exact OkP.of rfl rfl
theorem within_ok (vs : List Vw) (i : Nat) (ks : List Int) (hl : ks.length ≤ 1048576) (hv : vs.length = i) (hk : ∀ k ∈ ks, 0 ≤ k ∧ k < i) : foliolaw01_within (encs vs) (i : Int) ks = some (encs (ks.map fun k => vs.getD k.toNat .nil)) := by
 unfold foliolaw01_within
 refine OkP.eq ?_
 refine OkP.bind (Q := fun r => r = encs (ks.map fun k => vs.getD k.toNat .nil)) ?_ fun r hr => OkP.of rfl hr
 refine OkP.range ks (fun j s => s = encs ((ks.take j).map fun k => vs.getD k.toNat .nil)) (fun j k s hj hs => ?_) (fun s hs => ?_) rfl
 ·subst hs
  have hlt := (List.getElem?_eq_some_iff.1 hj).1
  have hkk := hk k (List.mem_of_getElem? hj)
  have hb : decide ((j : Int) < (ks.length : Int)) = true := by simp; omega
  have h1 : decide ((0 : Int) ≤ k) = true := by simp [hkk.1]
  have h2 : decide (k < (i : Int)) = true := by simp [hkk.2]
  have hlv : k.toNat < vs.length := by omega
  have h3 : idx (encs vs) k = some (enc (vs.getD k.toNat .nil)) := by
   have e : (k.toNat : Int) = k := by omega
   rw [← e, idx_nat, encs_get, List.getElem?_eq_getElem (by omega), List.getD_eq_getElem?_getD, List.getElem?_eq_getElem (by omega)]
   rfl
  simp only [hb, cond_true, idx_nat, hj, Option.bind_some, h1, h2, h3]
  rw [app_of (by rw [encs_len, List.length_map, List.length_take]; simp; omega)]
  refine OkP.of rfl ⟨wrapS (by omega), ?_⟩
  rw [List.take_add_one, hj, List.map_append, encs_app]
  rfl
 ·subst hs
  simp only [Int.lt_irrefl, decide_false, cond_false]
  refine OkP.of rfl ?_
  rw [List.take_length]
theorem made_ok (L : List NodeD) (hlen : L.length ≤ 200) {tx : Nat → Int} (hF : ∀ i, i < L.length → Fit1 L tx i) : foliolaw01_made L = some (encs (Vs L)) := by
 unfold foliolaw01_made
 refine OkP.eq ?_
 refine OkP.bind (Q := fun r => r = encs (Vs L)) ?_ fun r hr => OkP.of rfl hr
 refine OkP.range L (fun i s => s = encs (Vs (L.take i))) (fun i n s hn hs => ?_) (fun s hs => ?_) rfl
 ·subst hs
  have hlt := (List.getElem?_eq_some_iff.1 hn).1
  have hf := hF i hlt
  have hkid := hf.kid n hn
  have hnum := hf.num n hn
  have hb : decide ((i : Int) < (L.length : Int)) = true := by simp; omega
  have hvl := Vs_len L i (by omega)
  have hw := within_ok (Vs (L.take i)) i (nKids n) (by omega) hvl hkid
  have hkl : ((nKids n).map fun k => (Vs (L.take i)).getD k.toNat .nil).length ≤ 1048576 := by rw [List.length_map]; omega
  simp only [hb, cond_true, idx_nat, hn, Option.bind_some, hw, enc_first, under_ok, in_ok, new_ok, join_ok _ hkl]
  have fin : ∀ e : Er, e = enc (mkV n (kidV (Vs (L.take i)) n)) → OkP False ((app 16 (encs (Vs (L.take i))) (e :: [])).bind fun r12 => some (Sum.inl ((IntKind.wrap .i64 ((i : Int) + (1 : Int)), r12) : Int × List Er) : Sum (Int × List Er) (List Er))) (fun d => match d with | .inl z => z.1 = ((i + 1 : Nat) : Int) ∧ z.2 = encs (Vs (L.take (i + 1))) | .inr k => k = encs (Vs L)) := fun e he => by
   rw [app_of (by rw [encs_len, hvl]; simp; omega)]
   refine OkP.of rfl ⟨wrapS (by omega), ?_⟩
   rw [Vs_take L hn, encs_app, he]
   rfl
  unfold mkV at fin
  by_cases h0 : n.1 = 0
  ·simp only [h0, if_true, decide_true, cond_true, Option.bind_some] at fin ⊢
   exact (fin _ rfl).imp id fun d hd => by cases d <;> exact hd
  by_cases h1 : n.1 = 1
  ·simp only [h1, if_true, decide_true, cond_true, Option.bind_some, show ((1 : Int) = 0) = False from by simp, decide_false, cond_false, if_false] at fin ⊢
   exact (fin _ rfl).imp id fun d hd => by cases d <;> exact hd
  by_cases h2 : n.1 = 2
  ·simp only [h2, if_true, decide_true, cond_true, Option.bind_some, show ((2 : Int) = 0) = False from by simp, show ((2 : Int) = 1) = False from by simp, decide_false, cond_false, if_false] at fin ⊢
   exact (fin _ rfl).imp id fun d hd => by cases d <;> exact hd
  by_cases h3 : n.1 = 3
  ·simp only [h3, if_true, decide_true, cond_true, Option.bind_some, show ((3 : Int) = 0) = False from by simp, show ((3 : Int) = 1) = False from by simp, show ((3 : Int) = 2) = False from by simp, decide_false, cond_false, if_false] at fin ⊢
   exact (fin _ rfl).imp id fun d hd => by cases d <;> exact hd
  simp only [h0, h1, h2, h3, if_false, decide_false, cond_false] at fin ⊢
  by_cases h4 : n.1 = 4
  ·simp only [h4, if_true, decide_true, cond_true, Option.bind_some] at fin ⊢
   exact (fin _ rfl).imp id fun d hd => by cases d <;> exact hd
  by_cases h5 : n.1 = 5
  ·simp only [h5, if_true, decide_true, cond_true, Option.bind_some, show ((5 : Int) = 4) = False from by simp, decide_false, cond_false, if_false] at fin ⊢
   exact (fin _ rfl).imp id fun d hd => by cases d <;> exact hd
  by_cases h6 : n.1 = 6
  ·simp only [h6, if_true, decide_true, cond_true, Option.bind_some, show ((6 : Int) = 4) = False from by simp, show ((6 : Int) = 5) = False from by simp, decide_false, cond_false, if_false] at fin ⊢
   exact (fin _ rfl).imp id fun d hd => by cases d <;> exact hd
  simp only [h4, h5, h6, if_false, decide_false, cond_false, Option.bind_some] at fin ⊢
  exact (fin _ rfl).imp id fun d hd => by cases d <;> exact hd
 ·subst hs
  simp only [Int.lt_irrefl, decide_false, cond_false]
  refine OkP.of rfl ?_
  rw [List.take_length]
end Go.Fn
/- Chapter 1, plainly: how deep errors are. -/
namespace Go.Fn
open Go Go.Lf Go.Eng Go.Proofs
mutual
def Deep : Nat → Nat → Vw → Prop
 | _, _, .nil => True
 | _, n, .new .. => 1 ≤ n
 | d, n, .und _ _ k => 1 ≤ d ∧ Deep (d - 1) n k
 | d, n, .inn _ k => 1 ≤ d ∧ Deep (d - 1) n k
 | d, n, .join ks => 1 ≤ d ∧ ks.length ≤ 1048576 ∧ Deeps (d - 1) n ks
 | _, _, .plain _ => True
 | d, n, .wrap _ k => 1 ≤ d ∧ Deep (d - 1) n k
 | d, n, .many _ ks => 1 ≤ d ∧ ks.length ≤ 1048576 ∧ Deeps (d - 1) n ks
def Deeps : Nat → Nat → List Vw → Prop
 | _, _, [] => True
 | d, n, v :: r => ∃ a, a ≤ n ∧ Deep d a v ∧ Deeps d (n - a) r
end
mutual
theorem Deep.mono : ∀ (v : Vw) {d d' n n' : Nat}, d ≤ d' → n ≤ n' → Deep d n v → Deep d' n' v
 | .nil, _, _, _, _, _, _, _ => trivial
 | .new .., _, _, _, _, _, hn, h => by have h : 1 ≤ _ := h; show 1 ≤ _; omega
 | .und _ _ k, _, _, _, _, hd, hn, h => ⟨by have := h.1; omega, Deep.mono k (by omega) hn h.2⟩
 | .inn _ k, _, _, _, _, hd, hn, h => ⟨by have := h.1; omega, Deep.mono k (by omega) hn h.2⟩
 | .join ks, _, _, _, _, hd, hn, h => ⟨by have := h.1; omega, h.2.1, Deeps.mono ks (by omega) hn h.2.2⟩
 | .plain _, _, _, _, _, _, _, _ => trivial
 | .wrap _ k, _, _, _, _, hd, hn, h => ⟨by have := h.1; omega, Deep.mono k (by omega) hn h.2⟩
 | .many _ ks, _, _, _, _, hd, hn, h => ⟨by have := h.1; omega, h.2.1, Deeps.mono ks (by omega) hn h.2.2⟩
theorem Deeps.mono : ∀ (l : List Vw) {d d' n n' : Nat}, d ≤ d' → n ≤ n' → Deeps d n l → Deeps d' n' l
 | [], _, _, _, _, _, _, _ => trivial
 | v :: r, _, _, _, _, hd, hn, h => by
  obtain ⟨a, h1, h2, h3⟩ := h
  exact ⟨a, by omega, Deep.mono v hd (Nat.le_refl _) h2, Deeps.mono r hd (by omega) h3⟩
end
theorem deeps_filter {d : Nat} : ∀ (l : List Vw) (n : Nat), Deeps d n l → Deeps d n (l.filter fun v => !v.isNil)
 | [], _, _ => trivial
 | v :: r, n, h => by
  obtain ⟨a, h1, h2, h3⟩ := h
  have h4 := deeps_filter r _ h3
  cases hn : v.isNil with
  | true => rw [List.filter_cons_of_neg (by simp [hn])]; exact Deeps.mono _ (Nat.le_refl _) (by omega) h4
  | false => rw [List.filter_cons_of_pos (by simp [hn])]; exact ⟨a, h1, h2, h4⟩
theorem deep_join {d n : Nat} {ks : List Vw} (hl : ks.length ≤ 1048576) (h : Deeps d n ks) : Deep (d + 1) n (joinV ks) := by
 unfold joinV
 have h1 := deeps_filter ks n h
 have h2 := List.length_filter_le (fun v : Vw => !v.isNil) ks
 split
 ·exact trivial
 ·exact ⟨by omega, by omega, h1⟩
theorem deeps_kids {L : List NodeD} {tx : Nat → Int} {d : Nat} : ∀ (ks : List Int) (n : Nat), (∀ k ∈ ks, 0 ≤ tx k.toNat ∧ Deep d (tx k.toNat).toNat ((Vs L).getD k.toNat .nil)) → sumK tx ks ≤ n → Deeps d n (ks.map fun k => (Vs L).getD k.toNat .nil)
 | [], _, _, _ => trivial
 | k :: r, n, h, hb => by
  have h1 := h k List.mem_cons_self
  have hr := fun k hk => h k (List.mem_cons_of_mem _ hk)
  have hp : 0 ≤ sumK tx r := by
   clear hb h h1
   induction r with
   | nil => simp [sumK]
   | cons a r ih =>
    have h2 := ih fun k hk => hr k (List.mem_cons_of_mem _ hk)
    have h3 := (hr a List.mem_cons_self).1
    simp only [sumK, List.map_cons, List.sum_cons] at h2 ⊢
    omega
  have e : sumK tx (k :: r) = tx k.toNat + 2 + sumK tx r := by simp [sumK]
  rw [e] at hb
  exact ⟨(tx k.toNat).toNat, by omega, h1.2, deeps_kids r _ hr (by omega)⟩
theorem deepV {L : List NodeD} {tx : Nat → Int} (hL : ∀ i, i < L.length → Fit1 L tx i) : ∀ (i : Nat), i < L.length → Deep (i + 1) (tx i).toNat ((Vs L).getD i .nil) := by
 intro i
 induction i using Nat.strongRecOn with
 | ind i ih =>
 intro hi
 obtain ⟨n, hn⟩ : ∃ n, L[i]? = some n := ⟨L[i], List.getElem?_eq_getElem hi⟩
 have hF := hL i hi
 have hkid := hF.kid n hn
 have ht := hF.text n hn
 have hle := hF.le
 have hnum := hF.num n hn
 have hk : ∀ k ∈ nKids n, 0 ≤ tx k.toNat ∧ Deep i (tx k.toNat).toNat ((Vs L).getD k.toNat .nil) := fun k hk => by
  have h1 := hkid k hk
  exact ⟨(hL k.toNat (by omega)).le.1, Deep.mono _ (by omega) (Nat.le_refl _) (ih k.toNat (by omega) (by omega))⟩
 have hds : Deeps i (tx i).toNat (kidV (Vs L) n) := deeps_kids (nKids n) _ hk (by omega)
 have hkl : (kidV (Vs L) n).length ≤ 1048576 := by unfold kidV; rw [List.length_map]; omega
 have e : (Vs L).getD i .nil = mkV n (kidV (Vs L) n) := by
  rw [List.getD_eq_getElem?_getD, Vs_get L hn hkid]
  rfl
 rw [e]
 have hfirst : Deep i (tx i).toNat (firstV (kidV (Vs L) n)) := by
  revert hds
  generalize kidV (Vs L) n = ks
  intro hds
  cases ks with
  | nil => exact trivial
  | cons v r =>
   obtain ⟨a, h1, h2, _⟩ := hds
   exact Deep.mono _ (Nat.le_refl _) h1 h2
 have hpos : 1 ≤ (tx i).toNat := by
  have hp : 0 ≤ sumK tx (nKids n) := by
   have : ∀ l : List Int, (∀ k ∈ l, 0 ≤ tx k.toNat) → 0 ≤ sumK tx l := fun l => by
    induction l with
    | nil => intro _; simp [sumK]
    | cons a r ih2 =>
     intro h
     have h2 := ih2 fun k hk => h k (List.mem_cons_of_mem _ hk)
     have h3 := h a List.mem_cons_self
     simp only [sumK, List.map_cons, List.sum_cons] at h2 ⊢
     omega
   exact this _ fun k h => (hk k h).1
  omega
 unfold mkV
 split
 ·split
  ·exact trivial
  ·exact hpos
 split
 ·cases (firstV (kidV (Vs L) n)).isNil with
  | true => exact trivial
  | false => exact ⟨by omega, hfirst⟩
 split
 ·cases (firstV (kidV (Vs L) n)).isNil with
  | true => exact trivial
  | false => exact ⟨by omega, hfirst⟩
 split
 ·exact deep_join hkl hds
 split
 ·exact trivial
 split
 ·exact ⟨by omega, hfirst⟩
 split
 ·exact ⟨by omega, hkl, hds⟩
 ·exact trivial
theorem unw_join (ks : List Vw) (h : ks.length ≤ 1048576) : mUnwraps (enc (.join ks)) = some (encs ks) := by
 show (app 16 ([] : List Er) (encs ks)).bind _ = _
 have hl : (encs ks).length = ks.length := by rw [encs_map, List.length_map]
 rw [app_of (by rw [hl]; simp; omega)]
 rfl
end Go.Fn
/- From what a row says of its arguments. -/
namespace Go.Fn
open Go Go.Lf Go.Eng Go.Proofs
abbrev NodeT : Ty := .st (.pr (.int .i64) (.pr (.st (.pr (.int .i64) (.pr (.int .i64) (.pr (.int .i64) (.pr (.int .i64) (.pr .str (.pr (.sl (.st (.pr .str (.pr (.int .i64) .unit)))) .unit))))))) (.pr .str (.pr (.int .i64) (.pr (.sl (.int .i64)) .unit)))))
theorem node_byt : Ty.byt NodeT = 128 := by kernel_rfl
theorem int_byt : Ty.byt (.int .i64) = 8 := by kernel_rfl
theorem nwf_of {L : List NodeD} (h : Wf (.sl NodeT) L) : NWf L := by
 obtain ⟨h1, h2⟩ := h
 have h1 : L.length * Ty.byt NodeT ≤ 140737488351232 := h1
 rw [node_byt] at h1
 refine ⟨by omega, fun n hn => ?_, fun n hn => ?_, fun n hn => ?_⟩
 ·obtain ⟨_, _, _, _, ⟨h3, _⟩, _⟩ := h2 n hn
  have h3 : (nKids n).length * Ty.byt (.int .i64) ≤ 140737488351232 := h3
  rw [int_byt] at h3
  omega
 ·obtain ⟨_, ⟨_, _, _, _, h3, _⟩, _⟩ := h2 n hn
  have h3 : (nWord n).length ≤ 140737488351232 := h3
  omega
 ·obtain ⟨_, _, h3, _⟩ := h2 n hn
  have h3 : (nLayer n).length ≤ 140737488351232 := h3
  omega
end Go.Fn
/- Chapter 1, plainly: which codes an error has. -/
namespace Go.Fn
open Go Go.Lf Go.Eng Go.Proofs
mutual
def hasV (c : Int) : Vw → Bool
 | .nil => false
 | .new k _ _ _ _ => decide (k = c)
 | .und _ _ k => hasV c k
 | .inn _ k => hasV c k
 | .join ks => hasVs c ks
 | .plain _ => false
 | .wrap _ k => hasV c k
 | .many _ ks => hasVs c ks
def hasVs (c : Int) : List Vw → Bool
 | [] => false
 | v :: r => hasV c v || hasVs c r
end
theorem is_new (n : Nat) (c k s l o : Int) (w : List UInt8) : isN (n + 1) c (enc (.new k s l o w)) = some (decide ((1 : Int) = 1) && decide (k = c)) := rfl
theorem is_und (n : Nat) (c : Int) (la : List UInt8) (wh : Int) (k : Vw) : isN (n + 1) c (enc (.und la wh k)) = isN n c (enc k) := rfl
theorem is_inn (n : Nat) (c : Int) (s : Int) (k : Vw) : isN (n + 1) c (enc (.inn s k)) = isN n c (enc k) := rfl
theorem is_join (n : Nat) (c : Int) (ks : List Vw) (h : ks.length ≤ 1048576) : isN (n + 1) c (enc (.join ks)) = bif Nat.ble (encs ks).length 1048576 then anyN (isN n c) (encs ks) else none := by
 show (mUnwraps (enc (.join ks))).bind (fun l => bif Nat.ble l.length 1048576 then anyN (isN n c) l else none) = _
 rw [unw_join ks h]
 rfl
theorem is_wrap (n : Nat) (c : Int) (t : List UInt8) (k : Vw) : isN (n + 1) c (enc (.wrap t k)) = isN n c (enc k) := rfl
theorem is_many (n : Nat) (c : Int) (t : List UInt8) (ks : List Vw) : isN (n + 1) c (enc (.many t ks)) = bif Nat.ble (encs ks).length 1048576 then anyN (isN n c) (encs ks) else none := rfl
mutual
theorem is_enc (c : Int) : ∀ (v : Vw) (d n m : Nat), Deep d n v → d < m → isN m c (enc v) = some (hasV c v)
 | v, _, _, 0, _, h => absurd h (by omega)
 | .nil, _, _, _ + 1, _, _ => rfl
 | .new k s l o w, _, _, m + 1, _, _ => by rw [is_new]; simp [hasV]
 | .und la wh k, d, n, m + 1, h, hm => by rw [is_und, is_enc c k (d - 1) n m h.2 (by have := h.1; omega)]; rfl
 | .inn s k, d, n, m + 1, h, hm => by rw [is_inn, is_enc c k (d - 1) n m h.2 (by have := h.1; omega)]; rfl
 | .join ks, d, n, m + 1, h, hm => by
  have e : Nat.ble (encs ks).length 1048576 = true := Nat.ble_eq_true_of_le (by rw [encs_len]; exact h.2.1)
  rw [is_join _ _ _ h.2.1, e, cond_true, is_encs c ks (d - 1) n m h.2.2 (by have := h.1; omega)]; rfl
 | .plain t, _, _, m + 1, _, _ => rfl
 | .wrap t k, d, n, m + 1, h, hm => by rw [is_wrap, is_enc c k (d - 1) n m h.2 (by have := h.1; omega)]; rfl
 | .many t ks, d, n, m + 1, h, hm => by
  have e : Nat.ble (encs ks).length 1048576 = true := Nat.ble_eq_true_of_le (by rw [encs_len]; exact h.2.1)
  rw [is_many, e, cond_true, is_encs c ks (d - 1) n m h.2.2 (by have := h.1; omega)]; rfl
theorem is_encs (c : Int) : ∀ (l : List Vw) (d n m : Nat), Deeps d n l → d < m → anyN (isN m c) (encs l) = some (hasVs c l)
 | [], _, _, _, _, _ => rfl
 | v :: r, d, n, m, h, hm => by
  obtain ⟨a, h1, h2, h3⟩ := h
  show (isN m c (enc v)).bind _ = _
  rw [is_enc c v d a m h2 hm]
  simp only [Option.bind_some, is_encs c r d _ m h3 hm, hasVs]
  cases hasV c v <;> rfl
end
end Go.Fn
/- Chapter 1, plainly: the faults of an error. -/
namespace Go.Fn
open Go Go.Lf Go.Eng Go.Proofs
abbrev StepD : Type := List UInt8 × (Int × Unit)
abbrev WayD : Type := Int × (Int × (List StepD × Unit))
abbrev FaultD : Type := Int × (Int × (Int × (Int × (List UInt8 × (List StepD × Unit)))))
def mkF (w : WayD) (c s l o : Int) (wd : List UInt8) : FaultD := (c, (if w.1 = 1 then w.2.1 else s, (l, (o, (wd, (w.2.2.1, ()))))))
mutual
def gathV : Vw → WayD → List FaultD
 | .nil, _ => []
 | .new c s l o wd, w => [mkF w c s l o wd]
 | .und la wh k, w => gathV k (w.1, (w.2.1, (w.2.2.1 ++ [(la, (wh, ()))], ())))
 | .inn s k, w => gathV k (if w.1 = 0 then (1, (s, w.2.2)) else w)
 | .join ks, w => gathVs ks w
 | .plain _, _ => []
 | .wrap _ k, w => gathV k w
 | .many _ ks, w => gathVs ks w
def gathVs : List Vw → WayD → List FaultD
 | [], _ => []
 | v :: r, w => gathV v w ++ gathVs r w
end
mutual
theorem gathV_len : ∀ (v : Vw) (d n : Nat) (w : WayD), Deep d n v → (gathV v w).length ≤ n
 | .nil, _, _, _, _ => by simp [gathV]
 | .new .., _, _, _, h => by have h : 1 ≤ _ := h; simpa [gathV] using h
 | .und _ _ k, _, _, _, h => by simp only [gathV]; exact gathV_len k _ _ _ h.2
 | .inn _ k, _, _, _, h => by simp only [gathV]; exact gathV_len k _ _ _ h.2
 | .join ks, _, _, _, h => by simp only [gathV]; exact gathVs_len ks _ _ _ h.2.2
 | .plain _, _, _, _, _ => by simp [gathV]
 | .wrap _ k, _, _, _, h => by simp only [gathV]; exact gathV_len k _ _ _ h.2
 | .many _ ks, _, _, _, h => by simp only [gathV]; exact gathVs_len ks _ _ _ h.2.2
theorem gathVs_len : ∀ (l : List Vw) (d n : Nat) (w : WayD), Deeps d n l → (gathVs l w).length ≤ n
 | [], _, _, _, _ => by simp [gathVs]
 | v :: r, d, n, w, h => by
  obtain ⟨a, h1, h2, h3⟩ := h
  have h4 := gathV_len v d a w h2
  have h5 := gathVs_len r d _ w h3
  simp only [gathVs, List.length_append]
  omega
end
theorem gathVs_take (w : WayD) : ∀ (ks : List Vw) (j : Nat) (v : Vw), ks[j]? = some v → gathVs (ks.take (j + 1)) w = gathVs (ks.take j) w ++ gathV v w
 | [], _, _, h => by simp at h
 | x :: r, 0, v, h => by
  have h : x = v := by simpa using h
  subst h
  simp [gathVs]
 | x :: r, j + 1, v, h => by
  have := gathVs_take w r j v (by simpa using h)
  simp only [List.take_succ_cons, gathVs, this, List.append_assoc]
def way0 : WayD := (0, (0, ([], ())))
end Go.Fn
/- Chapter 1, plainly: all faults of an error; wrapped ones. -/
namespace Go.Fn
open Go Go.Lf Go.Eng Go.Proofs
def bareV : Vw → List StepD
 | .und la wh k => (la, (wh, ())) :: bareV k
 | .inn _ k => bareV k
 | _ => []
def allV (v : Vw) : List FaultD := bif v.isNil then [] else match gathV v way0 with
 | [] => [(10, (0, (0, (0, ([], (bareV v, ()))))))]
 | l => l
end Go.Fn
/- Chapter 1, plainly: all faults; faults alike; wrapped ones. -/
namespace Go.Fn
open Go Go.Lf Go.Eng Go.Proofs
theorem step_refl (s : List UInt8) : decide ((s : List UInt8) ≠ s) = false := decide_eq_false (by simp)
theorem int_refl (x : Int) : decide ((x : Int) ≠ x) = false := decide_eq_false (by simp)
theorem same_refl (f : FaultD) (h : f.2.2.2.2.2.1.length ≤ 1000000000) : folioref01_Same f f = some true := by
 unfold folioref01_Same
 simp only [step_refl, int_refl, Bool.not_false, cond_true, Option.bind_some, cond_false]
 refine OkP.eq ?_
 refine OkP.bind (Q := fun r => match r with | .inl _ => True | .inr _ => False) ?_ fun r hr => ?_
 ·refine OkP.range (α := StepD) f.2.2.2.2.2.1 (fun _ s => s = (f, f)) (fun j x s hx hs => ?_) (fun s hs => ?_) rfl
  ·subst hs
   have hlt := (List.getElem?_eq_some_iff.1 hx).1
   have hb : decide ((j : Int) < ((List.length f.2.2.2.2.2.1 : Nat) : Int)) = true := by simp; omega
   simp only [hb, cond_true, idx_nat, hx, Option.bind_some, step_refl, int_refl, Bool.not_false, cond_false]
   exact OkP.of rfl ⟨wrapS (by omega), rfl⟩
  ·subst hs
   simp only [Int.lt_irrefl, decide_false, cond_false]
   exact OkP.of rfl trivial
 ·cases r with
  | inl _ => exact OkP.of rfl rfl
  | inr _ => exact hr.elim
structure FR (src : Prop) (p : List StepD) (a b : FaultD) : Prop where
 code : b.1 = a.1
 line : b.2.2.1 = a.2.2.1
 col : b.2.2.2.1 = a.2.2.2.1
 word : b.2.2.2.2.1 = a.2.2.2.2.1
 trail : b.2.2.2.2.2.1 = p ++ a.2.2.2.2.2.1
 source : src → b.2.1 = a.2.1
mutual
theorem gath_rel {src : Prop} {p : List StepD} : ∀ (v : Vw) (w w' : WayD), w'.2.2.1 = p ++ w.2.2.1 → (src → w'.1 = w.1 ∧ w'.2.1 = w.2.1) → All2 (FR src p) (gathV v w) (gathV v w')
 | .nil, _, _, _, _ => .nil
 | .new c s l o wd, w, w', h1, h2 => .cons ⟨rfl, rfl, rfl, rfl, h1, fun h => by obtain ⟨a, b⟩ := h2 h; simp only [mkF]; rw [a, b]⟩ .nil
 | .und la wh k, w, w', h1, h2 => gath_rel k _ _ (by show w'.2.2.1 ++ _ = _; rw [h1, List.append_assoc]) h2
 | .inn s k, w, w', h1, h2 => by
  simp only [gathV]
  refine gath_rel k _ _ ?_ ?_
  ·split <;> split <;> exact h1
  ·intro h
   obtain ⟨a, b⟩ := h2 h
   rw [a]
   split
   ·exact ⟨rfl, rfl⟩
   ·exact ⟨a, b⟩
 | .join ks, w, w', h1, h2 => gath_rels ks w w' h1 h2
 | .plain _, _, _, _, _ => .nil
 | .wrap _ k, w, w', h1, h2 => gath_rel k w w' h1 h2
 | .many _ ks, w, w', h1, h2 => gath_rels ks w w' h1 h2
theorem gath_rels {src : Prop} {p : List StepD} : ∀ (l : List Vw) (w w' : WayD), w'.2.2.1 = p ++ w.2.2.1 → (src → w'.1 = w.1 ∧ w'.2.1 = w.2.1) → All2 (FR src p) (gathVs l w) (gathVs l w')
 | [], _, _, _, _ => .nil
 | v :: r, w, w', h1, h2 => (gath_rel v w w' h1 h2).append (gath_rels r w w' h1 h2)
end
mutual
theorem gath_trail : ∀ (v : Vw) (d n : Nat) (w : WayD), Deep d n v → ∀ f ∈ gathV v w, f.2.2.2.2.2.1.length ≤ w.2.2.1.length + d
 | .nil, _, _, _, _ => fun f hf => by cases hf
 | .new c s l o wd, d, n, w, _ => fun f hf => by
  have : f = mkF w c s l o wd := by simpa [gathV] using hf
  subst this
  exact Nat.le_add_right _ _
 | .und la wh k, d, n, w, h => fun f hf => by
  have h1 := gath_trail k (d - 1) n _ h.2 f hf
  have h2 := h.1
  simp only [List.length_append, List.length_cons, List.length_nil] at h1
  omega
 | .inn s k, d, n, w, h => fun f hf => by
  have h1 := gath_trail k (d - 1) n _ h.2 f hf
  have h2 := h.1
  have h3 : (if w.1 = 0 then ((1, (s, w.2.2)) : WayD) else w).2.2.1.length = w.2.2.1.length := by split <;> rfl
  omega
 | .join ks, d, n, w, h => fun f hf => by
  have h1 := gaths_trail ks (d - 1) n w h.2.2 f hf
  omega
 | .plain _, _, _, _, _ => fun f hf => by cases hf
 | .wrap _ k, d, n, w, h => fun f hf => by
  have h1 := gath_trail k (d - 1) n w h.2 f hf
  omega
 | .many _ ks, d, n, w, h => fun f hf => by
  have h1 := gaths_trail ks (d - 1) n w h.2.2 f hf
  omega
theorem gaths_trail : ∀ (l : List Vw) (d n : Nat) (w : WayD), Deeps d n l → ∀ f ∈ gathVs l w, f.2.2.2.2.2.1.length ≤ w.2.2.1.length + d
 | [], _, _, _, _ => fun f hf => by cases hf
 | v :: r, d, n, w, h => fun f hf => by
  obtain ⟨a, h1, h2, h3⟩ := h
  rcases List.mem_append.1 hf with hf | hf
  ·exact gath_trail v d a w h2 f hf
  ·exact gaths_trail r d _ w h3 f hf
end
theorem gathVs_filter (w : WayD) : ∀ l : List Vw, gathVs (l.filter fun v => !v.isNil) w = gathVs l w
 | [] => rfl
 | v :: r => by
  cases hn : v.isNil with
  | true =>
   rw [List.filter_cons_of_neg (by simp [hn]), gathVs_filter w r]
   have : gathV v w = [] := by cases v <;> first | rfl | cases hn
   simp [gathVs, this]
  | false =>
   rw [List.filter_cons_of_pos (by simp [hn])]
   simp only [gathVs, gathVs_filter w r]
theorem gath_join (w : WayD) (l : List Vw) : gathV (joinV l) w = gathVs l w := by
 rw [← gathVs_filter]
 unfold joinV
 split
 ·rename_i h
  rw [h]
  rfl
 ·rfl
end Go.Fn
/- Chapter 1, plainly: codes and faults. -/
namespace Go.Fn
open Go Go.Lf Go.Eng Go.Proofs
mutual
theorem has_gath (c : Int) : ∀ (v : Vw) (w : WayD), (gathV v w).any (fun f => decide (f.1 = c)) = hasV c v
 | .nil, _ => rfl
 | .new k s l o wd, w => by simp [gathV, hasV, mkF]
 | .und la wh k, w => by simp only [gathV, hasV]; exact has_gath c k _
 | .inn s k, w => by simp only [gathV, hasV]; exact has_gath c k _
 | .join ks, w => by simp only [gathV, hasV]; exact hass_gath c ks _
 | .plain _, _ => rfl
 | .wrap _ k, w => by simp only [gathV, hasV]; exact has_gath c k _
 | .many _ ks, w => by simp only [gathV, hasV]; exact hass_gath c ks _
theorem hass_gath (c : Int) : ∀ (l : List Vw) (w : WayD), (gathVs l w).any (fun f => decide (f.1 = c)) = hasVs c l
 | [], _ => rfl
 | v :: r, w => by simp only [gathVs, hasVs, List.any_append, has_gath c v w, hass_gath c r w]
end
end Go.Fn
/- Chapter 1, plainly: the document's answers: which errors are nil, what is within. -/
namespace Go.Lf
open Go
theorem OkP.range2 {α σ κ : Type} {may : Prop} {B : σ × Int → Option ((σ × Int) ⊕ κ)} {Q : κ → Prop} (l : List α) (I : Nat → σ → Prop) (hstep : ∀ (i : Nat) x s, l[i]? = Option.some x → I i s → OkP may (B (s, (i : Int))) fun d => match d with | .inl z => z.2 = ((i + 1 : Nat) : Int) ∧ I (i + 1) z.1 | .inr k => Q k)
  (hend : ∀ s, I l.length s → OkP may (B (s, (l.length : Int))) fun d => match d with | .inl _ => False | .inr k => Q k) {s : σ} (h0 : I 0 s) : OkP may (loopC B (s, (0 : Int))) Q := by
 refine OkP.loop (fun n z => ∃ i : Nat, i + n = l.length ∧ z.2 = (i : Int) ∧ I i z.1) (fun n z hz => ?_) l.length (s, 0) ⟨0, by omega, rfl, h0⟩
 obtain ⟨i, hi, hz1, hz2⟩ := hz
 obtain ⟨z1, z2⟩ := z
 simp only at hz1 hz2
 subst hz1
 by_cases hlt : i < l.length
 ·refine (hstep i l[i] z1 (List.getElem?_eq_getElem hlt) hz2).imp id fun d hd => ?_
  cases d with
  | inl z => exact ⟨n - 1, by omega, i + 1, by omega, hd.1, hd.2⟩
  | inr k => exact hd
 ·have : i = l.length := by omega
  subst this
  refine (hend z1 hz2).imp id fun d hd => ?_
  cases d with
  | inl z => exact hd.elim
  | inr k => exact hd
end Go.Lf
namespace Go.Fn
open Go Go.Lf Go.Eng Go.Proofs
structure FitL (L : List NodeD) (tx : Nat → Int) : Prop where
 len : L.length ≤ 200
 one : ∀ i, i < L.length → Fit1 L tx i
def vAt (L : List NodeD) (k : Int) : Vw := (Vs L).getD k.toNat .nil
theorem vAt_get {L : List NodeD} {tx : Nat → Int} (hL : FitL L tx) {i : Nat} {n : NodeD} (h : L[i]? = some n) : vAt L (i : Int) = mkV n (kidV (Vs L) n) := by
 have hlt := (List.getElem?_eq_some_iff.1 h).1
 have h1 := Vs_get L h ((hL.one i hlt).kid n h)
 show (Vs L).getD i .nil = _
 rw [List.getD_eq_getElem?_getD, h1]
 rfl
def oneB (n : NodeD) : Bool := decide (n.1 = 1) || (decide (n.1 = 2) || decide (n.1 = 5))
def noneB (n : NodeD) : Bool := decide (n.1 = 0) || (decide (n.1 = 4) || decide (n.1 = 7))
def kidI (L : List NodeD) (n : NodeD) : List Int := bif noneB n then [] else bif oneB n then (match nKids n with | [] => [] | k :: _ => bif (vAt L k).isNil then [] else [k]) else (nKids n).filter fun k => !(vAt L k).isNil
theorem bind_some_id {α : Type} (x : Option α) : (x.bind fun r => some r) = x := by cases x <;> rfl
theorem kids_none (self : List NodeD × Int → Option Bool) {L : List NodeD} {i : Nat} {n : NodeD} (hn : L[i]? = some n) (h : noneB n = true) : folioref01_kidsP self L (i : Int) = some [] := by
 unfold folioref01_kidsP
 simp only [idx_nat, hn, Option.bind_some]
 unfold noneB at h
 by_cases h0 : n.1 = 0
 ·simp only [h0, decide_true, Bool.not_true, cond_false, cond_true, Option.bind_some]
 by_cases h4 : n.1 = 4
 ·simp only [h4, decide_true, Bool.not_true, cond_false, cond_true, Option.bind_some, show decide ((4 : Int) = 0) = false from rfl, Bool.not_false]
 have h7 : n.1 = 7 := by simpa [h0, h4] using h
 simp only [h7, decide_true, cond_true, Option.bind_some, show decide ((7 : Int) = 0) = false from rfl, show decide ((7 : Int) = 4) = false from rfl, Bool.not_false]
theorem kids_some (self : List NodeD × Int → Option Bool) {L : List NodeD} {i : Nat} {n : NodeD} (hn : L[i]? = some n) (h : noneB n = false) :
  folioref01_kidsP self L (i : Int) = (Go.Lf.loopC (σ := (List (Int)) × (Int)) (κ := List (Int)) (fun z10 =>
   bif (decide (z10.2 < (((List.length (nKids n)) : Nat) : Int))) then (((Go.Lf.idx (nKids n) z10.2)).bind fun r11 =>
    (bif oneB n then some ((decide ((0 : Int) < (((List.length z10.1) : Nat) : Int))), z10.1)
     else some (false, z10.1)).bind fun r12 =>
    bif r12.1 then some (.inl r12.2)
    else (bif (decide ((0 : Int) ≤ r11)) then bif (decide (r11 < (i : Int))) then ((self (L, r11))).bind fun r13 =>
     some ((!r13), r12.2)
     else some (false, r12.2)
     else some (false, r12.2)).bind fun r14 =>
    bif r14.1 then ((Go.Lf.app (8 : Nat) r14.2 (r11 :: ([] : List (Int))))).bind fun r15 =>
    some (.inr r15)
    else bif oneB n then some (.inl r14.2)
    else some (.inr r14.2) : Option ((List (Int)) ⊕ (List (Int)))).bind fun r16 =>
   Go.Lf.onSum r16 (fun a17 =>
   some (.inr a17)) (fun b18 =>
   some (.inl (b18, (Go.IntKind.wrap .i64 (z10.2 + (1 : Int))))))
   else some (.inr z10.1)) ([], (0 : Int)) : Option (List (Int))) := by
 unfold noneB at h
 simp only [Bool.or_eq_false_iff, decide_eq_false_iff_not] at h
 obtain ⟨h0, h4, h7⟩ := h
 unfold folioref01_kidsP
 simp only [idx_nat, hn, Option.bind_some, h0, h4, h7, decide_false, Bool.not_false, cond_true, cond_false]
 have hone : (bif (!(decide ((n.1 : Int) = (1 : Int)))) then bif (!(decide ((n.1 : Int) = (2 : Int)))) then some (([] : List Int), (decide ((n.1 : Int) = (5 : Int)))) else some ([], true) else some ([], true)) = some ([], oneB n) := by
  unfold oneB
  by_cases h1 : n.1 = 1 <;> by_cases h2 : n.1 = 2 <;> simp [h1, h2]
 rw [hone]
 simp only [Option.bind_some]
 exact bind_some_id _
theorem kids_ok {L : List NodeD} {tx : Nat → Int} (hL : FitL L tx) {may : Prop} (self : List NodeD × Int → Option Bool) {i : Nat} {n : NodeD} (hn : L[i]? = some n) (hs : ∀ k : Int, 0 ≤ k → k < i → OkP may (self (L, k)) (· = (vAt L k).isNil)) :
  OkP may (folioref01_kidsP self L (i : Int)) (· = kidI L n) := by
 have hlt := (List.getElem?_eq_some_iff.1 hn).1
 have hkid := (hL.one i hlt).kid n hn
 have hnum := (hL.one i hlt).num n hn
 unfold kidI
 cases h0 : noneB n with
 | true => exact OkP.of (kids_none self hn h0) rfl
 | false =>
 rw [kids_some self hn h0, cond_false]
 cases h1 : oneB n with
 | true =>
  simp only [cond_true]
  cases hk : nKids n with
  | nil =>
   rw [loopC_step]
   exact OkP.of rfl rfl
  | cons k r =>
   have hkk := hkid k (by rw [hk]; exact List.mem_cons_self)
   have e0 : decide ((0 : Int) ≤ k) = true := by simp [hkk.1]
   have e1 : decide (k < (i : Int)) = true := by simp [hkk.2]
   have hb : decide ((0 : Int) < ((List.length (k :: r) : Nat) : Int)) = true := by simp
   rw [loopC_step]
   have hz : idx (k :: r) (0 : Int) = some k := rfl
   simp only [hb, cond_true, hz, Option.bind_some, List.length_nil, show decide ((0 : Int) < ((0 : Nat) : Int)) = false from rfl, cond_false, e0, e1]
   refine OkP.bind (OkP.bind (Q := fun x => x = bif (vAt L k).isNil then (Sum.inl [] : Sum (List Int) (List Int)) else .inr [k]) (OkP.bind (OkP.bind (hs k hkk.1 hkk.2) fun b hb => OkP.of (Q := fun x : Bool × List Int => x = (!(vAt L k).isNil, [])) rfl (by rw [hb])) fun x hx => ?_) fun x hx => ?_) fun x hx => hx
   ·subst hx
    cases (vAt L k).isNil with
    | true => exact OkP.of rfl rfl
    | false =>
     simp only [Bool.not_false, cond_true]
     rw [app_of (by simp)]
     exact OkP.of rfl rfl
   ·subst hx
    cases (vAt L k).isNil with
    | true => exact OkP.of rfl (OkP.of rfl rfl)
    | false =>
     refine OkP.of rfl ?_
     have e3 : IntKind.wrap .i64 ((0 : Int) + (1 : Int)) = 1 := wrap64 (by omega) (by omega)
     show OkP may (loopC _ ([k], IntKind.wrap .i64 ((0 : Int) + (1 : Int)))) _
     rw [e3, loopC_step]
     cases r with
     | nil => exact OkP.of rfl rfl
     | cons k2 r2 =>
      have hb2 : decide ((1 : Int) < ((List.length (k :: k2 :: r2) : Nat) : Int)) = true := by simp; omega
      have hz2 : idx (k :: k2 :: r2) (1 : Int) = some k2 := rfl
      simp only [cond_true, hz2, Option.bind_some, List.length_cons, List.length_nil, show decide ((0 : Int) < ((0 + 1 : Nat) : Int)) = true from rfl, onSum]
      generalize decide ((1 : Int) < _) = bb
      cases bb <;> exact OkP.of rfl rfl
 | false =>
  simp only [cond_false]
  refine OkP.range2 (nKids n) (fun j s => s = ((nKids n).take j).filter fun k => !(vAt L k).isNil) (fun j k s hj hI => ?_) (fun s hI => ?_) rfl
  ·subst hI
   have hkk := hkid k (List.mem_of_getElem? hj)
   have hjl := (List.getElem?_eq_some_iff.1 hj).1
   have e0 : decide ((0 : Int) ≤ k) = true := by simp [hkk.1]
   have e1 : decide (k < (i : Int)) = true := by simp [hkk.2]
   have hb : decide ((j : Int) < ((List.length (nKids n) : Nat) : Int)) = true := by simp; omega
   have hf : (((nKids n).take j).filter fun k => !(vAt L k).isNil).length ≤ j := Nat.le_trans (List.length_filter_le _ _) (by rw [List.length_take]; omega)
   have ht : (nKids n).take (j + 1) = (nKids n).take j ++ [k] := by rw [List.take_add_one, hj]; rfl
   simp only [hb, cond_true, idx_nat, hj, Option.bind_some, cond_false, e0, e1]
   refine OkP.bind (Q := fun x => x = (Sum.inr (((nKids n).take (j + 1)).filter fun k => !(vAt L k).isNil) : Sum (List Int) (List Int))) (OkP.bind (OkP.bind (hs k hkk.1 hkk.2) fun b hb => OkP.of (Q := fun x : Bool × List Int => x = (!(vAt L k).isNil, ((nKids n).take j).filter fun k => !(vAt L k).isNil)) rfl (by rw [hb])) fun x hx => ?_) fun x hx => ?_
   ·subst hx
    cases hv : (vAt L k).isNil with
    | true =>
     refine OkP.of rfl ?_
     rw [ht, List.filter_append]
     simp [hv]
    | false =>
     simp only [Bool.not_false, cond_true]
     rw [app_of (by simp; omega)]
     refine OkP.of rfl ?_
     rw [ht, List.filter_append]
     simp [hv]
   ·subst hx
    exact OkP.of rfl ⟨wrapS (by omega), rfl⟩
  ·subst hI
   simp only [Int.lt_irrefl, decide_false, cond_false]
   refine OkP.of rfl ?_
   rw [List.take_length]
theorem firstV_kid {L : List NodeD} {n : NodeD} : firstV (kidV (Vs L) n) = match nKids n with | [] => .nil | k :: _ => vAt L k := by
 unfold kidV
 cases nKids n <;> rfl
theorem joinV_nil (ks : List Vw) : (joinV ks).isNil = (ks.filter fun v => !v.isNil).isEmpty := by
 unfold joinV
 cases ks.filter fun v => !v.isNil <;> rfl
theorem kidV_filter {L : List NodeD} {n : NodeD} : (kidV (Vs L) n).filter (fun v => !v.isNil) = ((nKids n).filter fun k => !(vAt L k).isNil).map (vAt L) := by
 unfold kidV
 rw [List.filter_map]
 rfl
theorem nilN_ok {L : List NodeD} {tx : Nat → Int} (hL : FitL L tx) : ∀ (m : Nat) (k : Int), 0 ≤ k → k < L.length → OkP (m ≤ k.toNat) (folioref01_NilN m (L, k)) (· = (vAt L k).isNil) := by
 intro m
 induction m with
 | zero => exact fun k h0 h1 => .inr ⟨Nat.zero_le _, rfl⟩
 | succ m ih =>
  intro k h0 h1
  obtain ⟨i, rfl⟩ : ∃ i : Nat, k = (i : Int) := ⟨k.toNat, by omega⟩
  have hi : i < L.length := by omega
  obtain ⟨n, hn⟩ : ∃ n, L[i]? = some n := ⟨L[i], List.getElem?_eq_getElem hi⟩
  have hself : ∀ k : Int, 0 ≤ k → k < i → OkP (m + 1 ≤ i) (folioref01_NilN m (L, k)) (· = (vAt L k).isNil) := fun k h2 h3 => (ih k h2 (by omega)).imp (fun h => by omega) fun _ h => h
  have hkid := (hL.one i hi).kid n hn
  show OkP (m + 1 ≤ i) (folioref01_NilB (folioref01_NilN m) L (i : Int)) _
  unfold folioref01_NilB
  have e0 : decide ((i : Int) < 0) = false := by simp
  have e1 : decide (((List.length L : Nat) : Int) ≤ (i : Int)) = false := by simp; omega
  simp only [e0, e1, Bool.not_false, cond_true, cond_false, Option.bind_some, idx_nat, hn]
  rw [vAt_get hL hn]
  unfold mkV
  by_cases k0 : n.1 = 0
  ·simp only [k0, decide_true, cond_true, if_true]
   refine OkP.of rfl ?_
   by_cases hc : nCode n = 0
   ·simp only [hc, decide_true, if_true]; rfl
   ·simp only [hc, decide_false, if_false]; rfl
  have one : OkP (m + 1 ≤ i) ((bif (!(decide (((((List.length (nKids n)) : Nat) : Int) : Int) = (0 : Int)))) then ((Go.Lf.idx (nKids n) (0 : Int))).bind fun r4 =>
    bif (!(decide ((i : Int) ≤ r4))) then ((Go.Lf.idx (nKids n) (0 : Int))).bind fun r5 =>
    ((folioref01_NilN m (L, r5))).bind fun r6 =>
    some r6
    else some true
    else some true).bind fun r7 => some r7) (· = (firstV (kidV (Vs L) n)).isNil) := by
   rw [firstV_kid]
   cases hk : nKids n with
   | nil => exact OkP.of rfl rfl
   | cons k r =>
    have hkk := hkid k (by rw [hk]; exact List.mem_cons_self)
    have e2 : decide (((((List.length (k :: r)) : Nat) : Int) : Int) = (0 : Int)) = false := decide_eq_false (by simp; omega)
    have e3 : decide ((i : Int) ≤ k) = false := by simp; omega
    have e4 : idx (k :: r) (0 : Int) = some k := rfl
    simp only [e2, e3, e4, Bool.not_false, cond_true, Option.bind_some]
    exact OkP.bind (OkP.bind (hself k hkk.1 hkk.2) fun b hb => OkP.of (Q := fun x => x = (vAt L k).isNil) rfl hb) fun b hb => OkP.of rfl hb
  by_cases k1 : n.1 = 1
  ·simp only [k1, decide_true, cond_true, if_true, Option.bind_some, show ((1 : Int) = 0) = False from by simp, if_false]
   refine one.imp id fun b hb => hb.trans ?_
   cases (firstV (kidV (Vs L) n)) <;> rfl
  by_cases k2 : n.1 = 2
  ·simp only [k2, decide_true, if_true, show ((2 : Int) = 0) = False from by simp, show ((2 : Int) = 1) = False from by simp, if_false]
   refine one.imp id fun b hb => hb.trans ?_
   cases (firstV (kidV (Vs L) n)) <;> rfl
  by_cases k3 : n.1 = 3
  ·simp only [k3, decide_true, cond_true, if_true, show ((3 : Int) = 0) = False from by simp, show ((3 : Int) = 1) = False from by simp, show ((3 : Int) = 2) = False from by simp, if_false]
   refine OkP.bind (kids_ok hL _ hn hself) fun r hr => OkP.of rfl ?_
   subst hr
   rw [joinV_nil, kidV_filter]
   unfold kidI noneB oneB
   simp only [k3, show decide ((3 : Int) = 0) = false from rfl, show decide ((3 : Int) = 1) = false from rfl, show decide ((3 : Int) = 2) = false from rfl, show decide ((3 : Int) = 4) = false from rfl, show decide ((3 : Int) = 5) = false from rfl, show decide ((3 : Int) = 7) = false from rfl, Bool.or_false, cond_false]
   cases (nKids n).filter fun k => !(vAt L k).isNil with
   | nil => rfl
   | cons a b => exact decide_eq_false (by simp; omega)
  by_cases k4 : n.1 = 4
  ·simp only [k4, decide_true, cond_true, if_true, Option.bind_some, show ((4 : Int) = 0) = False from by simp, show ((4 : Int) = 1) = False from by simp, show ((4 : Int) = 2) = False from by simp, show ((4 : Int) = 3) = False from by simp, if_false]
   exact OkP.of rfl rfl
  by_cases k5 : n.1 = 5
  ·simp only [k5, decide_true, cond_true, if_true, show ((5 : Int) = 0) = False from by simp, show ((5 : Int) = 1) = False from by simp, show ((5 : Int) = 2) = False from by simp, show ((5 : Int) = 3) = False from by simp, show ((5 : Int) = 4) = False from by simp, if_false]
   exact OkP.of rfl rfl
  simp only [k0, k1, k2, k3, k4, k5, decide_false, cond_false, if_false, Option.bind_some]
  by_cases k6 : n.1 = 6
  ·simp only [k6, decide_true, cond_true, if_true]
   exact OkP.of rfl rfl
  ·simp only [k6, decide_false, cond_false, if_false]
   exact OkP.of rfl rfl
theorem nil_ok {L : List NodeD} {tx : Nat → Int} (hL : FitL L tx) {k : Int} (h0 : 0 ≤ k) (h1 : k < L.length) : folioref01_Nil L k = some (vAt L k).isNil := supC_ok k.toNat fun m => nilN_ok hL m k h0 h1
theorem kidsR_ok {L : List NodeD} {tx : Nat → Int} (hL : FitL L tx) {i : Nat} {n : NodeD} (hn : L[i]? = some n) : folioref01_kids L (i : Int) = some (kidI L n) := by
 have hlt := (List.getElem?_eq_some_iff.1 hn).1
 exact (kids_ok (may := False) hL _ hn fun k h0 h1 => OkP.of (nil_ok hL h0 (by omega)) rfl).eq
end Go.Fn
/- Chapter 1, plainly: how long lists of faults are. -/
namespace Go.Fn
open Go Go.Lf Go.Eng Go.Proofs
theorem vAt_get0 {L : List NodeD} {i : Nat} {v : Vw} (h : (Vs L)[i]? = some v) : vAt L (i : Int) = v := by
 show (Vs L).getD i .nil = v
 rw [List.getD_eq_getElem?_getD, h]
 rfl
end Go.Fn
/- Chapter 1, plainly: the document's faults. -/
namespace Go.Fn
open Go Go.Lf Go.Eng Go.Proofs
def wayT (told : Bool) (src : Int) (trail : List StepD) : WayD := (bif told then 1 else 0, (src, (trail, ())))
theorem gathVs_pre (w : WayD) : ∀ (ks : List Vw) (j : Nat), (gathVs (ks.take j) w).length ≤ (gathVs ks w).length
 | [], j => by simp
 | v :: r, 0 => by simp [gathVs]
 | v :: r, j + 1 => by
  have := gathVs_pre w r j
  simp only [List.take_succ_cons, gathVs, List.length_append]
  omega
def wayN (n : NodeD) (w : WayD) : WayD := if n.1 = 1 then (w.1, (w.2.1, (w.2.2.1 ++ [(nLayer n, (nWhat n, ()))], ()))) else if n.1 = 2 then (if w.1 = 0 then (1, (nWhat n, w.2.2)) else w) else w
theorem gath_kids {L : List NodeD} {n : NodeD} (hk0 : n.1 ≠ 0) (hnil : (mkV n (kidV (Vs L) n)).isNil = false) (w : WayD) : gathV (mkV n (kidV (Vs L) n)) w = gathVs ((kidI L n).map (vAt L)) (wayN n w) := by
 have one : ∀ w', (oneB n = true → noneB n = false → (gathV (firstV (kidV (Vs L) n)) w' = gathVs ((kidI L n).map (vAt L)) w')) := fun w' ho hz => by
  rw [firstV_kid]
  unfold kidI
  rw [ho, hz]
  cases nKids n with
  | nil => rfl
  | cons k r =>
   simp only [cond_false, cond_true]
   cases hv : (vAt L k).isNil with
   | true => cases hw : vAt L k <;> rw [hw] at hv <;> first | rfl | cases hv
   | false => simp [gathVs]
 have all : noneB n = false → oneB n = false → gathVs (kidV (Vs L) n) w = gathVs ((kidI L n).map (vAt L)) w := fun hz ho => by
  rw [← gathVs_filter, kidV_filter]
  unfold kidI
  rw [hz, ho]
  rfl
 unfold mkV at hnil ⊢
 unfold wayN
 rw [if_neg hk0] at hnil ⊢
 by_cases k1 : n.1 = 1
 ·simp only [k1, if_true] at hnil ⊢
  cases hv : (firstV (kidV (Vs L) n)).isNil with
  | true => rw [hv] at hnil; cases hnil
  | false => exact one _ (by simp [oneB, k1]) (by simp [noneB, k1])
 rw [if_neg k1] at hnil ⊢
 rw [if_neg k1]
 by_cases k2 : n.1 = 2
 ·simp only [k2, if_true] at hnil ⊢
  cases hv : (firstV (kidV (Vs L) n)).isNil with
  | true => rw [hv] at hnil; cases hnil
  | false => exact one _ (by simp [oneB, k2]) (by simp [noneB, k2])
 rw [if_neg k2] at hnil ⊢
 rw [if_neg k2]
 by_cases k3 : n.1 = 3
 ·rw [if_pos k3, gath_join]
  exact all (by simp [noneB, k3]) (by simp [oneB, k3])
 rw [if_neg k3] at hnil ⊢
 by_cases k4 : n.1 = 4
 ·rw [if_pos k4]
  unfold kidI
  rw [show noneB n = true by simp [noneB, k4]]
  rfl
 rw [if_neg k4] at hnil ⊢
 by_cases k5 : n.1 = 5
 ·rw [if_pos k5]
  exact one _ (by simp [oneB, k5]) (by simp [noneB, k5])
 rw [if_neg k5] at hnil ⊢
 by_cases k6 : n.1 = 6
 ·rw [if_pos k6]
  exact all (by simp [noneB, k6]) (by simp [oneB, k6])
 ·rw [if_neg k6] at hnil
  cases hnil
theorem kidI_sub {L : List NodeD} {n : NodeD} {k : Int} (h : k ∈ kidI L n) : k ∈ nKids n ∧ (vAt L k).isNil = false := by
 unfold kidI at h
 cases h0 : noneB n with
 | true => rw [h0] at h; cases h
 | false =>
  rw [h0, cond_false] at h
  cases h1 : oneB n with
  | true =>
   rw [h1, cond_true] at h
   cases hk : nKids n with
   | nil => rw [hk] at h; cases h
   | cons a r =>
    rw [hk] at h
    simp only at h
    cases hv : (vAt L a).isNil with
    | true => rw [hv] at h; cases h
    | false =>
     rw [hv] at h
     have : k = a := by simpa using h
     subst this
     exact ⟨List.mem_cons_self, hv⟩
  | false =>
   rw [h1, cond_false] at h
   obtain ⟨h2, h3⟩ := List.mem_filter.1 h
   exact ⟨h2, by simpa using h3⟩
theorem deepL {L : List NodeD} {tx : Nat → Int} (hL : FitL L tx) {i : Nat} (hi : i < L.length) : Deep 201 1000000 (vAt L (i : Int)) := Deep.mono _ (by have := hL.len; omega) (by have := (hL.one i hi).le; omega) (deepV hL.one i hi)
theorem kidI_len {L : List NodeD} {n : NodeD} : (kidI L n).length ≤ (nKids n).length + 1 := by
 unfold kidI
 cases noneB n with
 | true => exact Nat.zero_le _
 | false =>
  cases oneB n with
  | true =>
   simp only [cond_false, cond_true]
   cases nKids n with
   | nil => exact Nat.zero_le _
   | cons a r =>
    show (bif (vAt L a).isNil then [] else [a]).length ≤ _
    cases (vAt L a).isNil <;> simp
  | false =>
   simp only [cond_false]
   exact Nat.le_trans (List.length_filter_le _ _) (Nat.le_succ _)
set_option maxHeartbeats 1000000 in
theorem faultsN_ok {L : List NodeD} {tx : Nat → Int} (hL : FitL L tx) : ∀ (m : Nat) (k : Int) (trail : List StepD) (src : Int) (told : Bool), 0 ≤ k → k < L.length → (vAt L k).isNil = false → trail.length + k.toNat ≤ 1000 →
  OkP (m ≤ k.toNat) (folioref01_faultsN m (L, (k, (trail, (src, told))))) (· = gathV (vAt L k) (wayT told src trail)) := by
 intro m
 induction m with
 | zero => exact fun k _ _ _ _ _ _ _ => .inr ⟨Nat.zero_le _, rfl⟩
 | succ m ih =>
  intro k trail src told h0 h1 hnil htr
  obtain ⟨i, rfl⟩ : ∃ i : Nat, k = (i : Int) := ⟨k.toNat, by omega⟩
  have hi : i < L.length := by omega
  obtain ⟨n, hn⟩ : ∃ n, L[i]? = some n := ⟨L[i], List.getElem?_eq_getElem hi⟩
  have htr : trail.length + i ≤ 1000 := htr
  have hself : ∀ (k : Int) (tr : List StepD) (s : Int) (t : Bool), 0 ≤ k → k < i → (vAt L k).isNil = false → tr.length ≤ trail.length + 1 → OkP (m + 1 ≤ i) (folioref01_faultsN m (L, (k, (tr, (s, t))))) (· = gathV (vAt L k) (wayT t s tr)) := fun k tr s t h2 h3 h4 h5 => (ih k tr s t h2 (by omega) h4 (by omega)).imp (fun h => by omega) fun _ h => h
  have hkid := (hL.one i hi).kid n hn
  have hnum := (hL.one i hi).num n hn
  have hdp := gathV_len (vAt L (i : Int)) 201 1000000 (wayT told src trail) (deepL hL hi)
  show OkP (m + 1 ≤ i) (folioref01_faultsB (folioref01_faultsN m) L (i : Int) trail src told) _
  unfold folioref01_faultsB
  simp only [idx_nat, hn, Option.bind_some]
  rw [vAt_get hL hn] at hnil hdp ⊢
  by_cases k0 : n.1 = 0
  ·have hc : nCode n ≠ 0 := fun hc => by
    unfold mkV at hnil
    rw [if_pos k0, if_pos hc] at hnil
    cases hnil
   have hv : mkV n (kidV (Vs L) n) = .new (nCode n) (nSrc n) (nLine n) (nCol n) (nWord n) := by
    unfold mkV
    rw [if_pos k0, if_neg hc]
   rw [hv]
   have e1 : app 24 ([] : List StepD) trail = some trail := by rw [app_of (by simp; omega)]; rfl
   simp only [k0, decide_true, cond_true]
   cases told with
   | true =>
    simp only [cond_true, Option.bind_some, e1, onSum]
    exact OkP.of rfl rfl
   | false =>
    simp only [cond_false, Option.bind_some, e1, onSum]
    exact OkP.of rfl rfl
  rw [gath_kids k0 hnil] at hdp ⊢
  simp only [k0, decide_false, cond_false]
  have go : ∀ (t : Bool) (s : Int) (tr : List StepD), wayN n (wayT told src trail) = wayT t s tr → tr.length ≤ trail.length + 1 →
    OkP (m + 1 ≤ i) ((folioref01_kids L (i : Int)).bind fun r9 =>
   (Go.Lf.loopC (σ := (Int) × (List FaultD)) (κ := List FaultD) (fun z10 =>
   bif (decide (z10.1 < (((List.length r9) : Nat) : Int))) then ((Go.Lf.idx r9 z10.1)).bind fun r11 =>
   ((folioref01_faultsN m (L, (r11, (tr, (s, t)))))).bind fun r12 =>
   ((Go.Lf.app (72 : Nat) z10.2 r12)).bind fun r13 =>
   some (.inl ((Go.IntKind.wrap .i64 (z10.1 + (1 : Int))), r13))
   else some (.inr z10.2)) ((0 : Int), ([] : List FaultD)) : Option (List FaultD)).bind fun r14 =>
   some r14) (· = gathVs ((kidI L n).map (vAt L)) (wayN n (wayT told src trail))) := fun t s tr hw hl => by
   rw [kidsR_ok hL hn]
   simp only [Option.bind_some]
   rw [hw] at hdp ⊢
   have hkl := kidI_len (L := L) (n := n)
   refine OkP.bind (Q := fun r => r = gathVs ((kidI L n).map (vAt L)) (wayT t s tr)) ?_ fun r hr => OkP.of rfl hr
   refine OkP.range (kidI L n) (fun j o => o = gathVs (((kidI L n).map (vAt L)).take j) (wayT t s tr)) (fun j k o hj ho => ?_) (fun o ho => ?_) (by simp [gathVs])
   ·subst ho
    obtain ⟨h2, h3⟩ := kidI_sub (List.mem_of_getElem? hj)
    have hkk := hkid k h2
    have hjl := (List.getElem?_eq_some_iff.1 hj).1
    have hb : decide ((j : Int) < ((List.length (kidI L n) : Nat) : Int)) = true := by simp; omega
    have hg : ((kidI L n).map (vAt L))[j]? = some (vAt L k) := by rw [List.getElem?_map, hj]; rfl
    have ht := gathVs_take (wayT t s tr) _ j _ hg
    have hp := gathVs_pre (wayT t s tr) ((kidI L n).map (vAt L)) (j + 1)
    rw [ht, List.length_append] at hp
    simp only [hb, cond_true, idx_nat, hj, Option.bind_some]
    refine OkP.bind (hself k tr s t hkk.1 hkk.2 h3 hl) fun r hr => ?_
    subst hr
    rw [app_of (by omega)]
    exact OkP.of rfl ⟨wrapS (by omega), ht.symm⟩
   ·subst ho
    simp only [Int.lt_irrefl, decide_false, cond_false]
    refine OkP.of rfl ?_
    rw [List.take_of_length_le (by rw [List.length_map]; exact Nat.le_refl _)]
  by_cases k1 : n.1 = 1
  ·have e1 : app 24 ([] : List StepD) trail = some trail := by rw [app_of (by simp; omega)]; rfl
   have e2 : app 24 trail [(nLayer n, (nWhat n, ()))] = some (trail ++ [(nLayer n, (nWhat n, ()))]) := by rw [app_of (by simp; omega)]
   simp only [k1, decide_true, cond_true, Option.bind_some, e1]
   rw [show app 24 trail [(n.2.2.1, n.2.2.2.1, ())] = some (trail ++ [(nLayer n, (nWhat n, ()))]) from e2]
   simp only [Option.bind_some, onSum]
   exact go told src (trail ++ [(nLayer n, (nWhat n, ()))]) (by unfold wayN; rw [if_pos k1]; rfl) (by simp)
  by_cases k2 : n.1 = 2
  ·simp only [k2, decide_true, cond_true, cond_false, show decide ((2 : Int) = 1) = false from rfl]
   cases told with
   | true =>
    simp only [Bool.not_true, cond_false, Option.bind_some, onSum]
    exact go true src trail (by unfold wayN; rw [if_neg k1, if_pos k2]; rfl) (by omega)
   | false =>
    simp only [Bool.not_false, cond_true, Option.bind_some, onSum]
    exact go true (nWhat n) trail (by unfold wayN; rw [if_neg k1, if_pos k2]; rfl) (by omega)
  ·simp only [k1, k2, decide_false, cond_false, Option.bind_some, onSum]
   exact go told src trail (by unfold wayN; rw [if_neg k1, if_neg k2]) (by omega)
theorem faults_ok {L : List NodeD} {tx : Nat → Int} (hL : FitL L tx) {k : Int} (h0 : 0 ≤ k) (h1 : k < L.length) (hn : (vAt L k).isNil = false) : folioref01_faults L k [] 0 false = some (gathV (vAt L k) way0) :=
 supC_ok k.toNat fun m => faultsN_ok hL m k [] 0 false h0 h1 hn (by have := hL.len; simp; omega)
theorem mkV_bare {L : List NodeD} {n : NodeD} (hnil : (mkV n (kidV (Vs L) n)).isNil = false) : (n.1 = 1 → ∃ k, kidI L n = [k] ∧ k ∈ nKids n ∧ (vAt L k).isNil = false ∧ bareV (mkV n (kidV (Vs L) n)) = (nLayer n, (nWhat n, ())) :: bareV (vAt L k)) ∧
  (n.1 = 2 → ∃ k, kidI L n = [k] ∧ k ∈ nKids n ∧ (vAt L k).isNil = false ∧ bareV (mkV n (kidV (Vs L) n)) = bareV (vAt L k)) ∧ (n.1 ≠ 1 → n.1 ≠ 2 → bareV (mkV n (kidV (Vs L) n)) = []) := by
 have one : oneB n = true → noneB n = false → (firstV (kidV (Vs L) n)).isNil = false → ∃ k, kidI L n = [k] ∧ k ∈ nKids n ∧ (vAt L k).isNil = false ∧ firstV (kidV (Vs L) n) = vAt L k := fun ho hz hv => by
  rw [firstV_kid] at hv ⊢
  cases hk : nKids n with
  | nil => rw [hk] at hv; cases hv
  | cons k r =>
   rw [hk] at hv
   have hv : (vAt L k).isNil = false := hv
   refine ⟨k, ?_, List.mem_cons_self, hv, rfl⟩
   unfold kidI
   rw [ho, hz, hk]
   simp only [cond_false, cond_true, hv]
 refine ⟨fun k1 => ?_, fun k2 => ?_, fun k1 k2 => ?_⟩
 ·unfold mkV at hnil ⊢
  simp only [k1, show ((1 : Int) = 0) = False from by simp, if_false, if_true] at hnil ⊢
  cases hv : (firstV (kidV (Vs L) n)).isNil with
  | true => rw [hv] at hnil; cases hnil
  | false =>
   obtain ⟨k, e1, e2, e3, e4⟩ := one (by simp [oneB, k1]) (by simp [noneB, k1]) hv
   exact ⟨k, e1, e2, e3, by rw [e4]; rfl⟩
 ·unfold mkV at hnil ⊢
  simp only [k2, show ((2 : Int) = 0) = False from by simp, show ((2 : Int) = 1) = False from by simp, if_false, if_true] at hnil ⊢
  cases hv : (firstV (kidV (Vs L) n)).isNil with
  | true => rw [hv] at hnil; cases hnil
  | false =>
   obtain ⟨k, e1, e2, e3, e4⟩ := one (by simp [oneB, k2]) (by simp [noneB, k2]) hv
   exact ⟨k, e1, e2, e3, by rw [e4]; rfl⟩
 ·unfold mkV
  rw [if_neg k1, if_neg k2]
  split
  ·split <;> rfl
  split
  ·unfold joinV
   split <;> rfl
  split
  ·rfl
  split
  ·rfl
  split <;> rfl
set_option maxHeartbeats 1000000 in
theorem allR_ok {L : List NodeD} {tx : Nat → Int} (hL : FitL L tx) {k : Int} (h0 : 0 ≤ k) (h1 : k < L.length) : folioref01_All L k = some (allV (vAt L k)) := by
 unfold folioref01_All allV
 rw [nil_ok hL h0 h1]
 simp only [Option.bind_some]
 cases hn : (vAt L k).isNil with
 | true => rfl
 | false =>
 simp only [cond_false]
 rw [faults_ok hL h0 h1 hn]
 simp only [Option.bind_some]
 cases hg : gathV (vAt L k) way0 with
 | cons a r =>
  have : decide ((0 : Int) < (((a :: r).length : Nat) : Int)) = true := decide_eq_true (by simp)
  rw [this]
  rfl
 | nil =>
  simp only [List.length_nil, show decide ((0 : Int) < ((0 : Nat) : Int)) = false from rfl, cond_false]
  refine OkP.eq ?_
  refine OkP.bind (Q := fun r => r = ((10, (0, (0, (0, ([], (bareV (vAt L k), ())))))) : FaultD)) ?_ fun r hr => OkP.of rfl (by rw [hr])
  refine OkP.loop (fun m z => ∃ i : Nat, z.1 = (i : Int) ∧ i < L.length ∧ (vAt L (i : Int)).isNil = false ∧ m = i ∧ ∃ tr : List StepD, z.2 = ((10, (0, (0, (0, ([], (tr, ())))))) : FaultD) ∧ tr ++ bareV (vAt L (i : Int)) = bareV (vAt L k) ∧ tr.length + i ≤ 1000) (fun m z hz => ?_) k.toNat _ ⟨k.toNat, by omega, by omega, by rw [show ((k.toNat : Nat) : Int) = k by omega]; exact hn, rfl, [], rfl, by rw [show ((k.toNat : Nat) : Int) = k by omega]; rfl, by have := hL.len; simp; omega⟩
  obtain ⟨i, e1, hi, hnil, rfl, tr, e2, e3, e4⟩ := hz
  obtain ⟨z1, z2⟩ := z
  simp only at e1 e2
  subst e1 e2
  obtain ⟨n, hnn⟩ : ∃ n, L[m]? = some n := ⟨L[m], List.getElem?_eq_getElem hi⟩
  have hkid := (hL.one m hi).kid n hnn
  rw [vAt_get hL hnn] at hnil e3
  obtain ⟨b1, b2, b3⟩ := mkV_bare hnil
  simp only [kidsR_ok hL hnn, Option.bind_some, idx_nat, hnn]
  by_cases k1 : n.1 = 1
  ·obtain ⟨q, q1, q2, q3, q4⟩ := b1 k1
   have hq := hkid q q2
   simp only [k1, decide_true, cond_true]
   rw [show app 24 tr [(n.2.2.1, n.2.2.2.1, ())] = some (tr ++ [(nLayer n, (nWhat n, ()))]) from app_of (by simp; omega)]
   simp only [Option.bind_some, onSum, q1, List.length_cons, List.length_nil, show decide ((((0 + 1 : Nat) : Int) : Int) ≠ 1) = false from rfl, cond_false, show idx [q] (0 : Int) = some q from rfl]
   refine OkP.of rfl ⟨q.toNat, by omega, q.toNat, by show q = _; omega, by omega, by rw [show ((q.toNat : Nat) : Int) = q by omega]; exact q3, rfl, _, rfl, ?_, ?_⟩
   ·rw [show ((q.toNat : Nat) : Int) = q by omega, ← e3, q4]
    simp
   ·simp
    omega
  by_cases k2 : n.1 = 2
  ·obtain ⟨q, q1, q2, q3, q4⟩ := b2 k2
   have hq := hkid q q2
   simp only [k2, show decide ((2 : Int) = 1) = false from rfl, show decide ((2 : Int) ≠ 2) = false from rfl, cond_false, Option.bind_some, onSum, q1, List.length_cons, List.length_nil, show decide ((((0 + 1 : Nat) : Int) : Int) ≠ 1) = false from rfl, show idx [q] (0 : Int) = some q from rfl]
   refine OkP.of rfl ⟨q.toNat, by omega, q.toNat, by show q = _; omega, by omega, by rw [show ((q.toNat : Nat) : Int) = q by omega]; exact q3, rfl, _, rfl, ?_, ?_⟩
   ·rw [show ((q.toNat : Nat) : Int) = q by omega, ← e3, q4]
   ·omega
  ·have e5 : decide ((n.1 : Int) ≠ 2) = true := decide_eq_true k2
   simp only [k1, decide_false, cond_false, e5, cond_true, Option.bind_some, onSum]
   refine OkP.of rfl ?_
   rw [b3 k1 k2, List.append_nil] at e3
   rw [← e3]
def headF (l : List FaultD) : FaultD := match l with
 | [] => (0, (0, (0, (0, ([], ([], ()))))))
 | f :: _ => f
theorem toldR_ok {L : List NodeD} {tx : Nat → Int} (hL : FitL L tx) {k : Int} (h0 : 0 ≤ k) (h1 : k < L.length) : folioref01_Told L k = some (headF (allV (vAt L k))) := by
 unfold folioref01_Told
 rw [allR_ok hL h0 h1]
 simp only [Option.bind_some]
 cases allV (vAt L k) with
 | nil => rfl
 | cons f r =>
  have : decide ((((f :: r).length : Nat) : Int) = (0 : Int)) = false := decide_eq_false (by simp; omega)
  rw [this]
  rfl
end Go.Fn
/- errors.As, as an entry: its second argument is an interface that holds a pointer to a variable that is nil. -/
namespace Go.Fn
open Go Go.Lf Go.Eng Go.RowKit Go.Proofs
noncomputable def errors_As (e : Er) (x : Option ErrS.den) : Option (Bool × Option ErrS.den) := match x with
 | none => (fstN 400 e).bind fun o => some (o.isSome, o)
 | some _ => none
noncomputable def errors_AsEnt : Nat × Entry := (18, ⟨[.val .tr, .obj 37 (.op ErrS) (.op ErrS) [] (.ifc 39)], [.bool], fun z => errors_As z.1 z.2⟩)
theorem errors_As_ok : EntryOk Tryd.prog GG 18 errors_AsEnt.2 := by
 refine ⟨GoFn.mk Tryd.f18 (by kernel_rfl) (by kernel_rfl) (by kernel_rfl), fun t h => ?_, fun z r hz C φ vals gs hs ha hb => ?_⟩
 ·have h : Par.val t ∈ ([.val .tr, .obj 37 (.op ErrS) (.op ErrS) [] (.ifc 39)] : List Par) := h
  simp at h
  rw [h]; rfl
 ·obtain ⟨e, x⟩ := z
  have hz : errors_As e x = some r := hz
  cases x with
  | some _ => cases hz
  | none =>
  obtain ⟨o, ho, hz⟩ := Option.bind_eq_some_iff.1 (show (fstN 400 e).bind (fun o => some (o.isSome, o)) = some r from hz)
  injection hz with hz
  subst hz
  cases ha with
  | val h1 h2 h3 =>
  cases h3 with
  | obj h4 h5 h6 =>
  cases h6
  obtain ⟨⟨u, rfl, hu⟩, rfl⟩ := h2
  obtain ⟨rfl, h7⟩ := h4
  have h7 : _ = [Value.pointer none] := h7
  subst h7
  rename_i v g
  have h5 : v = .iface 39 (.pointer (some ⟨g, 0, none⟩)) := h5
  subst h5
  refine (ea_walk 400 e o ho C φ u C.w0 g hu (by simpa using hb)).mono ?_
  rintro x w' ⟨rfl, hao⟩
  cases o with
  | none =>
   obtain ⟨φ', hle, hb'⟩ := hao
   exact ⟨_, φ', [], [blk g 37 [.pointer none]], rfl, hle, hb', ⟨[.bool false], TupR.cons (t := .bool) (x := false) (cs := [.bool false]) (h := []) (hs := []) rfl ⟨rfl, rfl⟩ .nil, rfl⟩,
    ObsR.cons (t := .op ErrS) (x := none) (cs := [.pointer none]) (h := []) (hs := []) ⟨rfl, rfl⟩ .nil⟩
  | some y =>
   obtain ⟨φ', ad, cells, hle, hb', hr, hp, _⟩ := hao
   exact ⟨_, φ', [], [blk g 37 [.pointer (some ad)]], rfl, hle, hb', ⟨[.bool true], TupR.cons (t := .bool) (x := true) (cs := [.bool true]) (h := []) (hs := []) rfl ⟨rfl, rfl⟩ .nil, rfl⟩,
    ObsR.cons (t := .op ErrS) (x := some y) (cs := [.pointer (some ad)]) (h := []) (hs := []) ⟨rfl, ad, cells, rfl, hr, hp⟩ .nil⟩
end Go.Fn
open Go Go.Lf
set_option maxRecDepth 10000
namespace Go.Fn
abbrev fY0 : Lf.Ty := (.st (.pr .str (.pr (.int .i64) .unit)))
abbrev fT1 : Type := ((List ((List (UInt8)) × ((Int) × (Unit)))) × (Unit))
abbrev fY2 : Lf.Ty := (.pr .str (.pr (.sl fY0) .unit))
abbrev fT3 : Type := ((Int) × ((Int) × ((Int) × ((List (UInt8)) × fT1))))
abbrev fY4 : Lf.Ty := (.pr (.int .i64) (.pr (.int .i64) fY2))
abbrev fY5 : Lf.Ty := (.pr (.int .i64) (.pr (.int .i64) fY4))
abbrev fY6 : Lf.Ty := (.op (.st (.pr (.int .i64) (.pr (.st fY5) .unit))))
abbrev fY7 : Lf.Ty := (.pr (.st fY5) (.pr .str (.pr (.int .i64) (.pr (.sl (.int .i64)) .unit))))
def TysF : List (Nat × Lf.TyI) := [(3, ⟨(.int .i64), 0, 0⟩),
 (4, ⟨.bool, 0, 0⟩),
 (5, ⟨(.int .u8), 0, 0⟩),
 (6, ⟨(.int .u8), 0, 0⟩),
 (7, ⟨(.st (.pr (.int .i64) (.pr (.int .i64) (.pr .bool (.pr (.int .u8) .unit))))), 0, 0⟩),
 (8, ⟨(.st (.pr (.int .i64) (.pr (.int .i64) (.pr .bool (.pr (.int .u8) .unit))))), 0, 0⟩),
 (9, ⟨.str, 0, 0⟩),
 (10, ⟨.str, 0, 0⟩),
 (11, ⟨.str, 0, 0⟩),
 (13, ⟨(.st (.pr .str (.pr (.int .u64) .unit))), 0, 0⟩),
 (14, ⟨(.st (.pr .str (.pr (.int .u64) .unit))), 0, 0⟩),
 (21, ⟨(.int .i32), 0, 0⟩),
 (22, ⟨(.sl (.st (.pr (.int .i64) fY7))), 68, 128⟩),
 (25, ⟨(.sl .tr), 28, 16⟩),
 (28, ⟨.tr, 0, 0⟩),
 (40, ⟨(.int .i64), 0, 0⟩),
 (41, ⟨(.sl fY0), 66, 24⟩),
 (42, ⟨(.st fY5), 0, 0⟩),
 (43, ⟨(.st fY5), 0, 0⟩),
 (48, ⟨(.sl (.int .i64)), 3, 8⟩),
 (50, ⟨(.sl (.st fY5)), 43, 72⟩),
 (27, ⟨.tr, 0, 0⟩),
 (28, ⟨.tr, 0, 0⟩),
 (37, ⟨fY6, 0, 0⟩),
 (39, ⟨(.ptr fY6), 0, 0⟩),
 (78, ⟨(.ptr (.st (.pr fY0 (.pr .tr .unit)))), 0, 0⟩),
 (81, ⟨(.ptr (.st (.pr (.int .i64) (.pr .tr .unit)))), 0, 0⟩),
 (84, ⟨(.ptr (.st (.pr (.sl .tr) .unit))), 0, 0⟩),
 (121, ⟨.tr, 0, 0⟩),
 (123, ⟨.tr, 0, 0⟩),
 (125, ⟨.tr, 0, 0⟩),
 (126, ⟨.tr, 0, 0⟩),
 (127, ⟨.tr, 0, 0⟩)]
theorem TysF_ok : ∀ id i, Lf.look TysF id = some i → Lf.TyOk Proofs.Tryd.prog id i := Lf.tysB_ok (by kernel_rfl)
def TysFEq : List (Nat × Lf.Ty) := []
theorem TysFEq_ok : ∀ id t, Lf.look TysFEq id = some t → Lf.eqTop Proofs.Tryd.prog id t = true := Lf.eqsB_ok (by kernel_rfl)
def TysFIm : List (Nat × List (Nat × Bool)) := [(125, [(37, false), (78, true), (81, true), (84, false), (72, false), (74, true), (76, false)]), (126, [(37, false), (78, false), (81, false), (84, true), (72, false), (74, false), (76, true)])]
theorem TysFIm_ok : ∀ a l, Lf.look TysFIm a = some l → Lf.ImOk Proofs.Tryd.prog a l := Lf.imsB_ok (by kernel_rfl)
noncomputable def foliolaw01_FaultFirstCtx : Lf.Ctx := ⟨56, TysF, [foliolaw01_awakeEnt, foliolaw01_fitsEnt, foliolaw01_madeEnt, errors_AsEnt, folioref01_ToldEnt, folioref01_SomeEnt, folioref01_SameEnt, foliolaw01_bareEnt, fault_Error__FaultEnt], [], [], [(5, fY6)], [], TysFEq, [], none, TysFIm, []⟩
noncomputable def foliolaw01_FaultFirstCode : Go.Code := (Proofs.Tryd.f4.body).getD .skip
def foliolaw01_FaultFirstAnn : Lf.Ann := (.seq .no (.seq .no (.seq .no (.seq (.seq .no (.loop ⟨[0, 15], [], [(16, (.int .i64)), (14, (.rw 28 .tr))], [], []⟩ (.more (.ext 0) ⟨[], [], [], [], []⟩ (.one .ret ⟨[], [], [(2, .bool)], [], []⟩)) (.seq .no (.seq .no (.seq (.join (.more .ret ⟨[], [], [(2, .bool)], [], []⟩ (.one .nrm ⟨[0, 15, 16], [], [(14, (.rw 28 .tr))], [], []⟩)) (.seq .no (.seq .no (.seq (.join (.one .nrm ⟨[0, 15, 16, 3], [(5, .ref 5 [] 0)], [(14, (.rw 28 .tr)), (6, .bool)], [(5, 37, fY6)], []⟩) .no) (.seq .no (.seq .no (.seq .no (.cnd (.seq (.join (.one .nrm ⟨[0, 15, 16], [], [(54, .bool), (14, (.rw 28 .tr))], [], []⟩) (.soup 7)) .no) .no)))))))) .no))))) .no))))
noncomputable def foliolaw01_FaultFirst (a0 : List ((Int) × (((Int) × fT3) × ((List (UInt8)) × ((Int) × ((List (Int)) × (Unit))))))) : Option (Bool) :=
 (Go.Fn.foliolaw01_awake).bind fun r1 =>
 bif (!r1) then some false
 else ((Go.Fn.foliolaw01_fits a0)).bind fun r2 =>
 bif (!r2) then some true
 else ((Go.Fn.foliolaw01_made a0)).bind fun r3 =>
 (Lf.loopC (σ := (Int) × (List (Lf.Er))) (κ := (Unit) ⊕ (Bool)) (fun z4 =>
   bif (decide (z4.1 < (((List.length r3) : Nat) : Int))) then (((Lf.idx z4.2 z4.1)).bind fun r5 =>
    (bif (!(Lf.Er.isNil r5)) then ((Go.Fn.errors_As r5 (none : Option ((Int) × (((Int) × fT3) × (Unit)))))).bind fun r6 =>
     some (z4.2, (r6.1, r6.2))
     else some (z4.2, (false, (none : Option ((Int) × (((Int) × fT3) × (Unit))))))).bind fun r7 =>
    ((Go.Fn.folioref01_Told a0 z4.1)).bind fun r8 =>
    ((Go.Fn.folioref01_Some a0 z4.1)).bind fun r9 =>
    bif (decide ((r7.2.1 : Bool) ≠ r9)) then some (.inl false)
    else bif r7.2.1 then (bif (!(Option.isNone r7.2.2)) then ((Go.Fn.fault_Error__Fault r7.2.2)).bind fun r10 =>
     ((Go.Fn.foliolaw01_bare r10)).bind fun r11 =>
     ((Go.Fn.foliolaw01_bare r8)).bind fun r12 =>
     ((Go.Fn.folioref01_Same r11 r12)).bind fun r13 =>
     bif (!(!r13)) then ((Go.Fn.fault_Error__Fault r7.2.2)).bind fun r14 =>
     some ((decide (((((List.length r14.2.2.2.2.2.1) : Nat) : Int) : Int) ≠ (0 : Int))), r7.1)
     else some (true, r7.1)
     else some (true, r7.1)).bind fun r15 =>
    bif r15.1 then some (.inl false)
    else some (.inr r15.2)
    else some (.inr r7.1) : Option ((Bool) ⊕ (List (Lf.Er)))).bind fun r16 =>
   Lf.onSum r16 (fun a17 =>
   some (.inr (.inr a17))) (fun b18 =>
   some (.inl ((IntKind.wrap .i64 (z4.1 + (1 : Int))), b18)))
   else some (.inr (.inl ()))) ((0 : Int), r3) : Option ((Unit) ⊕ (Bool))).bind fun r19 =>
 Lf.onSum r19 (fun _ =>
 some true) (fun b21 =>
 some b21)
theorem foliolaw01_FaultFirst_eq (a0 : List ((Int) × (((Int) × fT3) × ((List (UInt8)) × ((Int) × ((List (Int)) × (Unit))))))) : Lf.fnE foliolaw01_FaultFirstCtx foliolaw01_FaultFirstCode foliolaw01_FaultFirstAnn [.val (.sl (.st (.pr (.int .i64) fY7)))] [.bool] [.tmp 2] (a0) = foliolaw01_FaultFirst a0 := by kernel_rfl
noncomputable def foliolaw01_FaultFirstEnt : Nat × Lf.Entry := (4, ⟨[.val (.sl (.st (.pr (.int .i64) fY7)))], [.bool], fun z => foliolaw01_FaultFirst z⟩)
theorem foliolaw01_FaultFirst_ok : Lf.EntryOk Proofs.Tryd.prog GG 4 foliolaw01_FaultFirstEnt.2 :=
 Lf.fn_ok (c := foliolaw01_FaultFirstCtx) (code := foliolaw01_FaultFirstCode) (an := foliolaw01_FaultFirstAnn) (slots := [.tmp 2]) (fn := Proofs.Tryd.f4) (by kernel_rfl) ⟨TysF_ok, Lf.FnsOk.look (.con foliolaw01_awake_ok (.con foliolaw01_fits_ok (.con foliolaw01_made_ok (.con errors_As_ok (.con folioref01_Told_ok (.con folioref01_Some_ok (.con folioref01_Same_ok (.con foliolaw01_bare_ok (.con fault_Error__Fault_ok .nil))))))))), Lf.IpsOk.look .nil, TysFEq_ok, TysFIm_ok, Lf.IvsOk.look .nil, Lf.FxsOk.look .nil⟩ (by kernel_rfl) (by kernel_rfl) (by kernel_rfl) (by kernel_rfl) (by kernel_rfl) (Nat.le_of_ble_eq_true rfl) (by simp [Lf.Ty.top]) (by simp [Lf.Ty.top]) fun z r h => (foliolaw01_FaultFirst_eq z).trans h
end Go.Fn
/- FaultFirst, plainly: the law holds of every list. -/
namespace Go.Fn
open Go Go.Lf Go.Eng Go.Proofs
mutual
def fstV : Vw → Option FaultD
 | .nil => none
 | .new c s l o w => some (c, (s, (l, (o, (w, ([], ()))))))
 | .und _ _ k => fstV k
 | .inn _ k => fstV k
 | .join ks => fstVs ks
 | .plain _ => none
 | .wrap _ k => fstV k
 | .many _ ks => fstVs ks
def fstVs : List Vw → Option FaultD
 | [] => none
 | v :: r => match fstV v with
  | some f => some f
  | none => fstVs r
end
def upE (o : Option FaultD) : Option ErrS.den := o.map fun f => ((1 : Int), (f, ()))
theorem fst_new (n : Nat) (c s l o : Int) (w : List UInt8) : fstN (n + 1) (enc (.new c s l o w)) = some (upE (some (c, (s, (l, (o, (w, ([], ())))))))) := rfl
theorem fst_und (n : Nat) (la : List UInt8) (wh : Int) (k : Vw) : fstN (n + 1) (enc (.und la wh k)) = fstN n (enc k) := rfl
theorem fst_inn (n : Nat) (s : Int) (k : Vw) : fstN (n + 1) (enc (.inn s k)) = fstN n (enc k) := rfl
theorem fst_join (n : Nat) (ks : List Vw) (h : ks.length ≤ 1048576) : fstN (n + 1) (enc (.join ks)) = bif Nat.ble (encs ks).length 1048576 then fstL (fstN n) (encs ks) else none := by
 show (mUnwraps (enc (.join ks))).bind (fun l => bif Nat.ble l.length 1048576 then fstL (fstN n) l else none) = _
 rw [unw_join ks h]
 rfl
theorem fst_wrap (n : Nat) (t : List UInt8) (k : Vw) : fstN (n + 1) (enc (.wrap t k)) = fstN n (enc k) := rfl
theorem fst_many (n : Nat) (t : List UInt8) (ks : List Vw) : fstN (n + 1) (enc (.many t ks)) = bif Nat.ble (encs ks).length 1048576 then fstL (fstN n) (encs ks) else none := rfl
mutual
theorem fst_enc : ∀ (v : Vw) (d n m : Nat), Deep d n v → d < m → fstN m (enc v) = some (upE (fstV v))
 | v, _, _, 0, _, h => absurd h (by omega)
 | .nil, _, _, _ + 1, _, _ => rfl
 | .new k s l o w, _, _, m + 1, _, _ => fst_new m k s l o w
 | .und la wh k, d, n, m + 1, h, hm => by rw [fst_und, fst_enc k (d - 1) n m h.2 (by have := h.1; omega)]; rfl
 | .inn s k, d, n, m + 1, h, hm => by rw [fst_inn, fst_enc k (d - 1) n m h.2 (by have := h.1; omega)]; rfl
 | .join ks, d, n, m + 1, h, hm => by
  have e : Nat.ble (encs ks).length 1048576 = true := Nat.ble_eq_true_of_le (by rw [encs_len]; exact h.2.1)
  rw [fst_join _ _ h.2.1, e, cond_true, fst_encs ks (d - 1) n m h.2.2 (by have := h.1; omega)]; rfl
 | .plain t, _, _, m + 1, _, _ => rfl
 | .wrap t k, d, n, m + 1, h, hm => by rw [fst_wrap, fst_enc k (d - 1) n m h.2 (by have := h.1; omega)]; rfl
 | .many t ks, d, n, m + 1, h, hm => by
  have e : Nat.ble (encs ks).length 1048576 = true := Nat.ble_eq_true_of_le (by rw [encs_len]; exact h.2.1)
  rw [fst_many, e, cond_true, fst_encs ks (d - 1) n m h.2.2 (by have := h.1; omega)]; rfl
theorem fst_encs : ∀ (l : List Vw) (d n m : Nat), Deeps d n l → d < m → fstL (fstN m) (encs l) = some (upE (fstVs l))
 | [], _, _, _, _, _ => rfl
 | v :: r, d, n, m, h, hm => by
  obtain ⟨a, h1, h2, h3⟩ := h
  show (fstN m (enc v)).bind (fun | some y => some (some y) | none => fstL (fstN m) (encs r)) = _
  rw [fst_enc v d a m h2 hm]
  simp only [Option.bind_some, fst_encs r d _ m h3 hm, fstVs]
  cases fstV v <;> rfl
end
def HdF : Option FaultD → Option FaultD → Prop
 | none, none => True
 | some a, some b => a.1 = b.1 ∧ a.2.2.1 = b.2.2.1 ∧ a.2.2.2.1 = b.2.2.2.1 ∧ a.2.2.2.2.1 = b.2.2.2.2.1
 | _, _ => False
mutual
theorem head_gath : ∀ (v : Vw) (w : WayD), HdF (gathV v w).head? (fstV v)
 | .nil, _ => trivial
 | .new c s l o wd, w => ⟨rfl, rfl, rfl, rfl⟩
 | .und la wh k, w => by simp only [gathV, fstV]; exact head_gath k _
 | .inn s k, w => by simp only [gathV, fstV]; exact head_gath k _
 | .join ks, w => by simp only [gathV, fstV]; exact heads_gath ks w
 | .plain _, _ => trivial
 | .wrap _ k, w => by simp only [gathV, fstV]; exact head_gath k w
 | .many _ ks, w => by simp only [gathV, fstV]; exact heads_gath ks w
theorem heads_gath : ∀ (l : List Vw) (w : WayD), HdF (gathVs l w).head? (fstVs l)
 | [], _ => trivial
 | v :: r, w => by
  have h1 := head_gath v w
  have h2 := heads_gath r w
  simp only [gathVs, fstVs, List.head?_append]
  revert h1 h2
  cases (gathV v w).head? <;> cases fstV v <;> intro h1 h2 <;> first | exact h1.elim | exact h2 | exact h1
end
mutual
theorem fst_trail : ∀ (v : Vw) {f : FaultD}, fstV v = some f → f.2.2.2.2.2.1 = []
 | .nil, _, h => by cases h
 | .new c s l o wd, _, h => by
  have h : some (c, (s, (l, (o, (wd, ([], ())))))) = some _ := h
  injection h with h
  rw [← h]
 | .und la wh k, _, h => fst_trail k (by simpa [fstV] using h)
 | .inn s k, _, h => fst_trail k (by simpa [fstV] using h)
 | .join ks, _, h => fsts_trail ks (by simpa [fstV] using h)
 | .plain _, _, h => by cases h
 | .wrap _ k, _, h => fst_trail k (by simpa [fstV] using h)
 | .many _ ks, _, h => fsts_trail ks (by simpa [fstV] using h)
theorem fsts_trail : ∀ (l : List Vw) {f : FaultD}, fstVs l = some f → f.2.2.2.2.2.1 = []
 | [], _, h => by cases h
 | v :: r, f, h => by
  have h : (match fstV v with | some f => some f | none => fstVs r) = some f := h
  split at h
  ·rename_i g hg
   injection h with h
   subst h
   exact fst_trail v hg
  ·exact fsts_trail r h
end
theorem as_enc {v : Vw} {d n : Nat} (h : Deep d n v) (hd : d < 400) : errors_As (enc v) none = some ((fstV v).isSome, upE (fstV v)) := by
 show (fstN 400 (enc v)).bind (fun o => some (o.isSome, o)) = _
 rw [fst_enc v d n 400 h hd]
 show some ((upE (fstV v)).isSome, upE (fstV v)) = _
 cases fstV v <;> rfl
theorem someR_ok {L : List NodeD} {tx : Nat → Int} (hL : FitL L tx) {k : Int} (h0 : 0 ≤ k) (h1 : k < L.length) : folioref01_Some L k = some (!(vAt L k).isNil && (fstV (vAt L k)).isSome) := by
 unfold folioref01_Some
 rw [nil_ok hL h0 h1]
 simp only [Option.bind_some]
 cases hn : (vAt L k).isNil with
 | true => rfl
 | false =>
  simp only [Bool.not_false, cond_true, faults_ok hL h0 h1 hn, Option.bind_some, Bool.true_and]
  have := head_gath (vAt L k) way0
  revert this
  cases gathV (vAt L k) way0 with
  | nil =>
   cases fstV (vAt L k) with
   | none => intro _; rfl
   | some f => intro h; exact h.elim
  | cons a r =>
   cases fstV (vAt L k) with
   | none => intro h; exact h.elim
   | some f => intro _; rw [decide_eq_true (by simp)]; rfl
set_option maxHeartbeats 2000000 in
theorem first_law (L : List NodeD) (hw : NWf L) : foliolaw01_FaultFirst L = some true := by
 unfold foliolaw01_FaultFirst
 rw [awake]
 simp only [Option.bind_some, Bool.not_true, cond_false]
 refine OkP.eq ?_
 refine OkP.bind (fits_ok L hw) fun b hb => ?_
 cases b with
 | false => exact OkP.of rfl rfl
 | true =>
 obtain ⟨h200, tx, hone⟩ := hb rfl
 have hL : FitL L tx := ⟨h200, hone⟩
 simp only [Bool.not_true, cond_false, made_ok L h200 hone, Option.bind_some]
 refine OkP.bind (Q := fun r => match r with | .inl _ => True | .inr b => b = true) ?_ fun r hr => ?_
 ·refine OkP.range (encs (Vs L)) (fun i s => s = encs (Vs L)) (fun i x s hx hs => ?_) (fun s hs => ?_) rfl
  ·subst hs
   have hxv := hx
   rw [encs_get] at hxv
   obtain ⟨v, hv, rfl⟩ := Option.map_eq_some_iff.1 hxv
   have hlt : i < L.length := by rw [← Vs_length]; exact (List.getElem?_eq_some_iff.1 hv).1
   have hva : vAt L (i : Int) = v := vAt_get0 hv
   have hd : Deep 201 1000000 v := by rw [← hva]; exact deepL hL hlt
   have hb : decide ((i : Int) < ((List.length (encs (Vs L)) : Nat) : Int)) = true := by rw [encs_len, Vs_length]; simp; omega
   have p0 : (0 : Int) ≤ (i : Int) := by omega
   have p1 : (i : Int) < L.length := by omega
   simp only [hb, cond_true, idx_nat, hx, Option.bind_some, enc_nil, toldR_ok hL p0 p1, someR_ok hL p0 p1, hva, as_enc hd (by omega)]
   cases hn : v.isNil with
   | true =>
    simp only [Bool.not_true, Bool.false_and, cond_false, Option.bind_some, ne_eq, not_true_eq_false, decide_false, onSum]
    refine OkP.some ?_
    exact ⟨wrapS (by omega), rfl⟩
   | false =>
    have hh := head_gath v way0
    have ht := fun f (hf : fstV v = some f) => fst_trail v hf
    have ha : allV v = match gathV v way0 with
     | [] => [(10, (0, (0, (0, ([], (bareV v, ()))))))]
     | l => l := by unfold allV; rw [hn]; rfl
    revert hh ht
    cases hf : fstV v with
    | none =>
     intro _ _
     simp only [Bool.not_false, Bool.true_and, Option.isSome_none, cond_true, cond_false, Option.bind_some, ne_eq, not_true_eq_false, decide_false, onSum]
     refine OkP.some ?_
     exact ⟨wrapS (by omega), rfl⟩
    | some f =>
     intro hh ht
     have ht := ht f rfl
     cases hg : gathV v way0 with
     | nil => rw [hg] at hh; exact hh.elim
     | cons g r =>
      rw [hg] at hh ha
      obtain ⟨e1, e2, e3, e4⟩ := hh
      have ha : allV v = g :: r := ha
      have hbare : foliolaw01_bare (headF (allV v)) = foliolaw01_bare f := by
       rw [ha]
       show some ((g.1, (0, (g.2.2.1, (g.2.2.2.1, (g.2.2.2.2.1, ([], ())))))) : FaultD) = some (f.1, (0, (f.2.2.1, (f.2.2.2.1, (f.2.2.2.2.1, ([], ()))))))
       rw [e1, e2, e3, e4]
      have hfa : fault_Error__Fault (upE (some f)) = some f := rfl
      have hbf : foliolaw01_bare f = some (f.1, (0, (f.2.2.1, (f.2.2.2.1, (f.2.2.2.2.1, ([], ())))))) := rfl
      have hsm : folioref01_Same ((f.1, (0, (f.2.2.1, (f.2.2.2.1, (f.2.2.2.2.1, ([], ())))))) : FaultD) (f.1, (0, (f.2.2.1, (f.2.2.2.1, (f.2.2.2.2.1, ([], ())))))) = some true := same_refl _ (Nat.zero_le _)
      simp only [Option.isSome_some, Bool.not_false, Bool.true_and, cond_true, Option.bind_some, ne_eq, not_true_eq_false, decide_false, cond_false, show Option.isNone (upE (some f)) = false from rfl, hfa, hbare, hbf, hsm, Bool.not_true, ht, List.length_nil, show decide (¬ ((((0 : Nat) : Int) : Int) = 0)) = false from rfl, onSum]
      refine OkP.some ?_
      exact ⟨wrapS (by omega), rfl⟩
  ·simp only [Int.lt_irrefl, decide_false, cond_false]
   exact OkP.of rfl trivial
 ·cases r with
  | inl u => exact OkP.of rfl rfl
  | inr b =>
   have hr : b = true := hr
   exact OkP.of rfl hr
theorem first_wf (x0 : List NodeD) (h0 : Wf (.sl NodeT) x0) : foliolaw01_FaultFirst x0 = some true := first_law x0 (nwf_of h0)
end Go.Fn
