/- Parts of the proof. -/
import Derived.Test.YtlidfdmdmiidfaaDoorProg
import Derived.KernelRfl
import Derived.Test.YtlidfdmdmiidfaaDoorQAE
open Go Go.Lf
set_option maxRecDepth 10000
namespace Go.Fn
abbrev vY0 : Lf.Ty := (.st (.pr .str (.pr (.int .i64) .unit)))
abbrev vT1 : Type := (List ((List (UInt8)) × ((Int) × (Unit))))
abbrev vY2 : Lf.Ty := (.pr (.int .i64) (.pr (.sl (.int .i64)) .unit))
abbrev vT3 : Type := ((List (UInt8)) × ((Int) × ((List (Int)) × (Unit))))
abbrev vY4 : Lf.Ty := (.pr (.rw 66 vY0) .unit)
abbrev vT5 : Type := ((Int) × (vT1 × (Unit)))
abbrev vY6 : Lf.Ty := (.pr .str (.pr (.sl vY0) .unit))
abbrev vT7 : Type := ((List (UInt8)) × (vT1 × (Unit)))
abbrev vY8 : Lf.Ty := (.pr (.int .i64) (.pr (.sl vY0) .unit))
abbrev vY9 : Lf.Ty := (.pr (.int .i64) (.pr .str vY4))
abbrev vY10 : Lf.Ty := (.st (.pr (.int .i64) vY8))
abbrev vT11 : Type := ((Int) × ((Int) × ((Int) × vT7)))
abbrev vY12 : Lf.Ty := (.pr (.int .i64) (.pr (.int .i64) vY6))
abbrev vY13 : Lf.Ty := (.pr (.int .i64) (.pr (.int .i64) vY9))
abbrev vY14 : Lf.Ty := (.pr (.int .i64) (.pr (.int .i64) vY12))
abbrev vY15 : Lf.Ty := (.st (.pr (.int .i64) vY13))
abbrev vT16 : Type := ((Int) × (((Int) × vT11) × vT3))
abbrev vY17 : Lf.Ty := (.pr (.st vY14) (.pr .str vY2))
abbrev vY18 : Lf.Ty := (.st (.pr (.int .i64) vY17))
def TysT : List (Nat × Lf.TyI) := [(2, ⟨(.int .i64), 0, 0⟩),
 (3, ⟨(.int .i64), 0, 0⟩),
 (4, ⟨.bool, 0, 0⟩),
 (5, ⟨(.int .u8), 0, 0⟩),
 (6, ⟨(.int .u8), 0, 0⟩),
 (7, ⟨(.st (.pr (.int .i64) (.pr (.int .i64) (.pr .bool (.pr (.int .u8) .unit))))), 0, 0⟩),
 (8, ⟨(.st (.pr (.int .i64) (.pr (.int .i64) (.pr .bool (.pr (.int .u8) .unit))))), 0, 0⟩),
 (9, ⟨.str, 0, 0⟩),
 (10, ⟨.str, 0, 0⟩),
 (11, ⟨.str, 0, 0⟩),
 (12, ⟨(.int .u64), 0, 0⟩),
 (13, ⟨(.st (.pr .str (.pr (.int .u64) .unit))), 0, 0⟩),
 (14, ⟨(.st (.pr .str (.pr (.int .u64) .unit))), 0, 0⟩),
 (21, ⟨(.int .i32), 0, 0⟩),
 (22, ⟨(.sl vY18), 68, 128⟩),
 (25, ⟨(.sl .tr), 28, 16⟩),
 (28, ⟨.tr, 0, 0⟩),
 (40, ⟨(.int .i64), 0, 0⟩),
 (41, ⟨(.sl vY0), 66, 24⟩),
 (42, ⟨(.st vY14), 0, 0⟩),
 (43, ⟨(.st vY14), 0, 0⟩),
 (48, ⟨(.sl (.int .i64)), 3, 8⟩),
 (50, ⟨(.sl (.st vY14)), 43, 72⟩),
 (59, ⟨(.st (.pr (.int .i64) (.pr (.st vY14) .unit))), 0, 0⟩),
 (60, ⟨(.st (.pr (.int .i64) (.pr (.st vY14) .unit))), 0, 0⟩),
 (65, ⟨vY0, 0, 0⟩),
 (66, ⟨vY0, 0, 0⟩),
 (67, ⟨vY18, 0, 0⟩),
 (68, ⟨vY18, 0, 0⟩),
 (71, ⟨(.st (.pr .str .unit)), 0, 0⟩),
 (72, ⟨(.st (.pr .str .unit)), 0, 0⟩),
 (73, ⟨(.st (.pr .str (.pr .tr .unit))), 0, 0⟩),
 (74, ⟨(.st (.pr .str (.pr .tr .unit))), 0, 0⟩),
 (75, ⟨(.st (.pr .str (.pr (.sl .tr) .unit))), 0, 0⟩),
 (76, ⟨(.st (.pr .str (.pr (.sl .tr) .unit))), 0, 0⟩),
 (79, ⟨(.st (.pr vY0 (.pr .tr .unit))), 0, 0⟩),
 (80, ⟨(.st (.pr vY0 (.pr .tr .unit))), 0, 0⟩),
 (82, ⟨(.st (.pr (.int .i64) (.pr .tr .unit))), 0, 0⟩),
 (83, ⟨(.st (.pr (.int .i64) (.pr .tr .unit))), 0, 0⟩),
 (85, ⟨(.st (.pr (.sl .tr) .unit)), 0, 0⟩),
 (86, ⟨(.st (.pr (.sl .tr) .unit)), 0, 0⟩),
 (88, ⟨(.int .u64), 0, 0⟩),
 (95, ⟨(.int .u8), 0, 0⟩),
 (101, ⟨vY10, 0, 0⟩),
 (102, ⟨vY10, 0, 0⟩),
 (107, ⟨(.sl (.int .u8)), 5, 1⟩),
 (27, ⟨.tr, 0, 0⟩),
 (28, ⟨.tr, 0, 0⟩),
 (37, ⟨(.ptr (.st (.pr (.int .i64) (.pr (.st vY14) .unit)))), 0, 0⟩),
 (78, ⟨(.ptr (.st (.pr vY0 (.pr .tr .unit)))), 0, 0⟩),
 (81, ⟨(.ptr (.st (.pr (.int .i64) (.pr .tr .unit)))), 0, 0⟩),
 (84, ⟨(.ptr (.st (.pr (.sl .tr) .unit))), 0, 0⟩),
 (121, ⟨.tr, 0, 0⟩),
 (123, ⟨.tr, 0, 0⟩),
 (125, ⟨.tr, 0, 0⟩),
 (126, ⟨.tr, 0, 0⟩),
 (127, ⟨.tr, 0, 0⟩)]
theorem TysT_ok : ∀ id i, Lf.look TysT id = some i → Lf.TyOk Proofs.Tryd.prog id i := Lf.tysB_ok (by kernel_rfl)
def TysTEq : List (Nat × Lf.Ty) := []
theorem TysTEq_ok : ∀ id t, Lf.look TysTEq id = some t → Lf.eqTop Proofs.Tryd.prog id t = true := Lf.eqsB_ok (by kernel_rfl)
def TysTIm : List (Nat × List (Nat × Bool)) := [(125, [(37, false), (78, true), (81, true), (84, false), (72, false), (74, true), (76, false)]), (126, [(37, false), (78, false), (81, false), (84, true), (72, false), (74, false), (76, true)])]
theorem TysTIm_ok : ∀ a l, Lf.look TysTIm a = some l → Lf.ImOk Proofs.Tryd.prog a l := Lf.imsB_ok (by kernel_rfl)
noncomputable def foliolaw01_fitsCtx : Lf.Ctx := ⟨89, TysT, [], [], [], [], [], TysTEq, [], none, TysTIm, []⟩
noncomputable def foliolaw01_fitsCode : Go.Code := (Proofs.Tryd.f9.body).getD .skip
def foliolaw01_fitsAnn : Lf.Ann := (.seq .no (.seq .no (.seq .no (.seq (.seq .no (.loop ⟨[15, 0, 16], [], [(4, (.mr 3 (.int .i64))), (3, (.mr 3 (.int .i64))), (17, (.int .i64))], [], []⟩ (.more (.ext 0) ⟨[0], [], [], [], []⟩ (.one .ret ⟨[], [], [(2, .bool)], [], []⟩)) (.seq .no (.seq .no (.seq (.seq .no (.seq .no (.seq .no (.seq (.seq .no (.loop ⟨[5, 38, 15, 0, 16, 17, 39], [], [(40, (.int .i64)), (4, (.mr 3 (.int .i64))), (3, (.mr 3 (.int .i64)))], [], []⟩ (.more (.ext 2) ⟨[15, 0, 16, 17, 5], [], [(4, (.mr 3 (.int .i64))), (3, (.mr 3 (.int .i64)))], [], []⟩ (.one .ret ⟨[], [], [(2, .bool)], [], []⟩)) (.seq .no (.seq .no (.seq (.seq .no (.seq (.seq (.join (.one .nrm ⟨[5, 38, 15, 0, 16, 17, 39, 40, 8], [], [(50, .bool), (4, (.mr 3 (.int .i64))), (3, (.mr 3 (.int .i64)))], [], []⟩) .no) .no) (.seq (.draw 10) (.draw 11)))) .no))))) (.seq (.join (.one .nrm ⟨[15, 0, 16, 17], [], [(84, .bool), (4, (.mr 3 (.int .i64))), (3, (.mr 3 (.int .i64)))], [], []⟩) .no) .no))))) .no))))) .no))))
noncomputable def foliolaw01_fits (a0 : List vT16) : Option (Bool) :=
 ((Lf.made (8 : Nat) (0 : Int) (((List.length a0) : Nat) : Int) (((List.length a0) : Nat) : Int))).bind fun r1 =>
 ((Lf.made (8 : Nat) (0 : Int) (((List.length a0) : Nat) : Int) (((List.length a0) : Nat) : Int))).bind fun r2 =>
 (Lf.loopC (σ := (List (Int)) × ((List (Int)) × (Int))) (κ := (Unit) ⊕ (Bool)) (fun z3 =>
     bif (decide (z3.2.2 < (((List.length a0) : Nat) : Int))) then ((Lf.idx a0 z3.2.2)).bind fun r4 =>
     ((Lf.chk (List.length z3.2.1) z3.2.2)).bind fun r5 =>
     ((Lf.nth z3.2.1 r5)).bind fun _ =>
     ((Lf.chk (List.length z3.1) z3.2.2)).bind fun r7 =>
     ((Lf.nth z3.1 r7)).bind fun _ =>
     (Lf.loopC (σ := (Int) × ((List (Int)) × (List (Int)))) (κ := ((List (Int)) × (List (Int))) ⊕ (Bool)) (fun z9 =>
         bif (decide (z9.1 < (((List.length r4.2.2.2.2.1) : Nat) : Int))) then ((Lf.idx r4.2.2.2.2.1 z9.1)).bind fun r10 =>
         (bif (!(decide (r10 < (0 : Int)))) then some ((decide (z3.2.2 ≤ r10)), (z9.2.1, z9.2.2))
           else some (true, (z9.2.1, z9.2.2))).bind fun r11 =>
         bif r11.1 then some (.inr (.inr false))
         else ((Lf.chk (List.length r11.2.2) z3.2.2)).bind fun r12 =>
         ((Lf.nth r11.2.2 r12)).bind fun r13 =>
         ((Lf.chk (List.length r11.2.2) r10)).bind fun r14 =>
         ((Lf.nth r11.2.2 r14)).bind fun r15 =>
         ((Lf.chk (List.length r11.2.2) z3.2.2)).bind fun r16 =>
         ((Lf.nth r11.2.2 r16)).bind fun _ =>
         ((Lf.chk (List.length r11.2.1) z3.2.2)).bind fun r18 =>
         ((Lf.nth r11.2.1 r18)).bind fun r19 =>
         ((Lf.chk (List.length r11.2.1) r10)).bind fun r20 =>
         ((Lf.nth r11.2.1 r20)).bind fun r21 =>
         ((Lf.chk (List.length r11.2.1) z3.2.2)).bind fun r22 =>
         ((Lf.nth r11.2.1 r22)).bind fun _ =>
         some (.inl ((IntKind.wrap .i64 (z9.1 + (1 : Int))), ((List.set r11.2.1 r22 (IntKind.wrap .i64 (r19 + (IntKind.wrap .i64 (r21 + (2 : Int)))))), (List.set r11.2.2 r16 (IntKind.wrap .i64 (r13 + r15))))))
         else some (.inr (.inl (z9.2.1, z9.2.2)))) ((0 : Int), ((List.set z3.1 r7 (IntKind.wrap .i64 ((IntKind.wrap .i64 ((60 : Int) + (((List.length r4.2.1.2.2.2.2.1) : Nat) : Int))) + (((List.length r4.2.2.1) : Nat) : Int)))), (List.set z3.2.1 r5 (1 : Int)))) : Option (((List (Int)) × (List (Int))) ⊕ (Bool))).bind fun r24 =>
     Lf.onSum r24 (fun a25 =>
     (((Lf.chk (List.length a25.2) z3.2.2)).bind fun r26 =>
       ((Lf.nth a25.2 r26)).bind fun r27 =>
       bif (!(decide ((20000 : Int) < r27))) then ((Lf.chk (List.length a25.1) z3.2.2)).bind fun r28 =>
       ((Lf.nth a25.1 r28)).bind fun r29 =>
       some ((decide ((1000000 : Int) < r29)), (a25.1, a25.2))
       else some (true, (a25.1, a25.2))).bind fun r30 =>
     bif r30.1 then some (.inr (.inr false))
     else some (.inl (r30.2.1, (r30.2.2, (IntKind.wrap .i64 (z3.2.2 + (1 : Int))))))) (fun b31 =>
     some (.inr (.inr b31)))
     else some (.inr (.inl ()))) (r2, (r1, (0 : Int))) : Option ((Unit) ⊕ (Bool))).bind fun r32 =>
 Lf.onSum r32 (fun _ =>
 some (decide ((((List.length a0) : Nat) : Int) ≤ (200 : Int)))) (fun b34 =>
 some b34)
theorem foliolaw01_fits_eq (a0 : List vT16) : Lf.fnE foliolaw01_fitsCtx foliolaw01_fitsCode foliolaw01_fitsAnn [.val (.sl vY18)] [.bool] [.tmp 2] (a0) = foliolaw01_fits a0 := by kernel_rfl
noncomputable def foliolaw01_fitsEnt : Nat × Lf.Entry := (9, ⟨[.val (.sl vY18)], [.bool], fun z => foliolaw01_fits z⟩)
theorem foliolaw01_fits_ok : Lf.EntryOk Proofs.Tryd.prog GG 9 foliolaw01_fitsEnt.2 :=
  Lf.fn_ok (c := foliolaw01_fitsCtx) (code := foliolaw01_fitsCode) (an := foliolaw01_fitsAnn) (slots := [.tmp 2]) (fn := Proofs.Tryd.f9) (by kernel_rfl) ⟨TysT_ok, Lf.FnsOk.look .nil, Lf.IpsOk.look .nil, TysTEq_ok, TysTIm_ok, Lf.IvsOk.look .nil, Lf.FxsOk.look .nil⟩ (by kernel_rfl) (by kernel_rfl) (by kernel_rfl) (by kernel_rfl) (by kernel_rfl) (Nat.le_of_ble_eq_true rfl) (by simp [Lf.Ty.top]) (by simp [Lf.Ty.top]) fun z r h => (foliolaw01_fits_eq z).trans h
noncomputable def foliolaw01_withinCtx : Lf.Ctx := ⟨32, TysT, [], [6, 7, 23, 31], [], [(6, (.rw 28 .tr)), (7, (.rw 28 .tr)), (23, (.rw 28 .tr)), (31, (.rw 28 .tr))], [], TysTEq, [], none, TysTIm, []⟩
noncomputable def foliolaw01_withinCode : Go.Code := (Proofs.Tryd.f35.body).getD .skip
def foliolaw01_withinAnn : Lf.Ann := (.seq .no (.seq .no (.seq (.seq .no (.loop ⟨[0, 1, 10, 11], [], [(12, (.int .i64)), (7, (.rw 28 .tr))], [], []⟩ (.one (.ext 0) ⟨[], [], [(7, (.rw 28 .tr))], [], []⟩) (.seq .no (.seq .no (.seq (.join (.one .nrm ⟨[0, 1, 10, 11, 12], [], [(7, (.rw 28 .tr))], [], []⟩) (.seq .no (.seq (.join (.one .nrm ⟨[0, 1, 10, 11, 12, 9], [], [(22, .bool), (7, (.rw 28 .tr))], [], []⟩) .no) .no))) .no))))) .no)))
noncomputable def foliolaw01_within (a0 : List (Lf.Er)) (a1 : Int) (a2 : List (Int)) : Option (List (Lf.Er)) :=
 (Lf.loopC (σ := (Int) × (List (Lf.Er))) (κ := List (Lf.Er)) (fun z1 =>
     bif (decide (z1.1 < (((List.length a2) : Nat) : Int))) then (((Lf.idx a2 z1.1)).bind fun r2 =>
       (bif (decide ((0 : Int) ≤ r2)) then some ((decide (r2 < a1)), z1.2)
         else some (false, z1.2)).bind fun r3 =>
       bif r3.1 then ((Lf.idx a0 r2)).bind fun r4 =>
       ((Lf.app (16 : Nat) r3.2 (r4 :: ([] : List (Lf.Er))))).bind fun r5 =>
       some r5
       else some r3.2).bind fun r6 =>
     some (.inl ((IntKind.wrap .i64 (z1.1 + (1 : Int))), r6))
     else some (.inr z1.2)) ((0 : Int), ([] : List (Lf.Er))) : Option (List (Lf.Er))).bind fun r7 =>
 some r7
theorem foliolaw01_within_eq (a0 : List (Lf.Er)) (a1 : Int) (a2 : List (Int)) : Lf.fnE foliolaw01_withinCtx foliolaw01_withinCode foliolaw01_withinAnn [.val (.sl .tr), .val (.int .i64), .val (.sl (.int .i64))] [(.rw 28 .tr)] [.tmp 6] (a0, a1, a2) = foliolaw01_within a0 a1 a2 := by kernel_rfl
noncomputable def foliolaw01_withinEnt : Nat × Lf.Entry := (35, ⟨[.val (.sl .tr), .val (.int .i64), .val (.sl (.int .i64))], [(.rw 28 .tr)], fun z => foliolaw01_within z.1 z.2.1 z.2.2⟩)
theorem foliolaw01_within_ok : Lf.EntryOk Proofs.Tryd.prog GG 35 foliolaw01_withinEnt.2 :=
  Lf.fn_ok (c := foliolaw01_withinCtx) (code := foliolaw01_withinCode) (an := foliolaw01_withinAnn) (slots := [.tmp 6]) (fn := Proofs.Tryd.f35) (by kernel_rfl) ⟨TysT_ok, Lf.FnsOk.look .nil, Lf.IpsOk.look .nil, TysTEq_ok, TysTIm_ok, Lf.IvsOk.look .nil, Lf.FxsOk.look .nil⟩ (by kernel_rfl) (by kernel_rfl) (by kernel_rfl) (by kernel_rfl) (by kernel_rfl) (Nat.le_of_ble_eq_true rfl) (by simp [Lf.Ty.top]) (by simp [Lf.Ty.top]) fun z r h => (foliolaw01_within_eq z.1 z.2.1 z.2.2).trans h
noncomputable def foliolaw01_firstCtx : Lf.Ctx := ⟨9, TysT, [], [], [], [], [], TysTEq, [], none, TysTIm, []⟩
noncomputable def foliolaw01_firstCode : Go.Code := (Proofs.Tryd.f36.body).getD .skip
def foliolaw01_firstAnn : Lf.Ann := .no
noncomputable def foliolaw01_first (a0 : List (Lf.Er)) : Option (Lf.Er) :=
 bif (decide (((((List.length a0) : Nat) : Int) : Int) = (0 : Int))) then some Lf.Er.nil
 else ((Lf.idx a0 (0 : Int))).bind fun r1 =>
 some r1
theorem foliolaw01_first_eq (a0 : List (Lf.Er)) : Lf.fnE foliolaw01_firstCtx foliolaw01_firstCode foliolaw01_firstAnn [.val (.sl .tr)] [.tr] [.tmp 2] (a0) = foliolaw01_first a0 := by kernel_rfl
noncomputable def foliolaw01_firstEnt : Nat × Lf.Entry := (36, ⟨[.val (.sl .tr)], [.tr], fun z => foliolaw01_first z⟩)
theorem foliolaw01_first_ok : Lf.EntryOk Proofs.Tryd.prog GG 36 foliolaw01_firstEnt.2 :=
  Lf.fn_ok (c := foliolaw01_firstCtx) (code := foliolaw01_firstCode) (an := foliolaw01_firstAnn) (slots := [.tmp 2]) (fn := Proofs.Tryd.f36) (by kernel_rfl) ⟨TysT_ok, Lf.FnsOk.look .nil, Lf.IpsOk.look .nil, TysTEq_ok, TysTIm_ok, Lf.IvsOk.look .nil, Lf.FxsOk.look .nil⟩ (by kernel_rfl) (by kernel_rfl) (by kernel_rfl) (by kernel_rfl) (by kernel_rfl) (Nat.le_of_ble_eq_true rfl) (by simp [Lf.Ty.top]) (by simp [Lf.Ty.top]) fun z r h => (foliolaw01_first_eq z).trans h
noncomputable def fault_UnderCtx : Lf.Ctx := ⟨16, TysT, [], [], [15], [(15, .tr)], [], TysTEq, [], none, TysTIm, []⟩
noncomputable def fault_UnderCode : Go.Code := (Proofs.Tryd.f14.body).getD .skip
def fault_UnderAnn : Lf.Ann := .no
noncomputable def fault_Under (a0 : Lf.Er) (a1 : List (UInt8)) (a2 : Int) : Option (Lf.Er) :=
 bif (Lf.Er.isNil a0) then some Lf.Er.nil
 else some (Lf.Er.nd (78 : Nat) false ((Lf.Ec.v (Go.Eng.str a1)) :: ((Lf.Ec.v (Go.Value.int .i64 a2)) :: ([] : List (Lf.Ec)))) (Lf.Tl.one a0))
theorem fault_Under_eq (a0 : Lf.Er) (a1 : List (UInt8)) (a2 : Int) : Lf.fnE fault_UnderCtx fault_UnderCode fault_UnderAnn [.val .tr, .val .str, .val (.int .i64)] [.tr] [.tmp 6] (a0, a1, a2) = fault_Under a0 a1 a2 := by kernel_rfl
noncomputable def fault_UnderEnt : Nat × Lf.Entry := (14, ⟨[.val .tr, .val .str, .val (.int .i64)], [.tr], fun z => fault_Under z.1 z.2.1 z.2.2⟩)
theorem fault_Under_ok : Lf.EntryOk Proofs.Tryd.prog GG 14 fault_UnderEnt.2 :=
  Lf.fn_ok (c := fault_UnderCtx) (code := fault_UnderCode) (an := fault_UnderAnn) (slots := [.tmp 6]) (fn := Proofs.Tryd.f14) (by kernel_rfl) ⟨TysT_ok, Lf.FnsOk.look .nil, Lf.IpsOk.look .nil, TysTEq_ok, TysTIm_ok, Lf.IvsOk.look .nil, Lf.FxsOk.look .nil⟩ (by kernel_rfl) (by kernel_rfl) (by kernel_rfl) (by kernel_rfl) (by kernel_rfl) (Nat.le_of_ble_eq_true rfl) (by simp [Lf.Ty.top]) (by simp [Lf.Ty.top]) fun z r h => (fault_Under_eq z.1 z.2.1 z.2.2).trans h
noncomputable def fault_InCtx : Lf.Ctx := ⟨12, TysT, [], [], [11], [(11, .tr)], [], TysTEq, [], none, TysTIm, []⟩
noncomputable def fault_InCode : Go.Code := (Proofs.Tryd.f16.body).getD .skip
def fault_InAnn : Lf.Ann := .no
noncomputable def fault_In (a0 : Lf.Er) (a1 : Int) : Option (Lf.Er) :=
 bif (Lf.Er.isNil a0) then some Lf.Er.nil
 else some (Lf.Er.nd (81 : Nat) false ((Lf.Ec.v (Go.Value.int .i64 a1)) :: ([] : List (Lf.Ec))) (Lf.Tl.one a0))
theorem fault_In_eq (a0 : Lf.Er) (a1 : Int) : Lf.fnE fault_InCtx fault_InCode fault_InAnn [.val .tr, .val (.int .i64)] [.tr] [.tmp 4] (a0, a1) = fault_In a0 a1 := by kernel_rfl
noncomputable def fault_InEnt : Nat × Lf.Entry := (16, ⟨[.val .tr, .val (.int .i64)], [.tr], fun z => fault_In z.1 z.2⟩)
theorem fault_In_ok : Lf.EntryOk Proofs.Tryd.prog GG 16 fault_InEnt.2 :=
  Lf.fn_ok (c := fault_InCtx) (code := fault_InCode) (an := fault_InAnn) (slots := [.tmp 4]) (fn := Proofs.Tryd.f16) (by kernel_rfl) ⟨TysT_ok, Lf.FnsOk.look .nil, Lf.IpsOk.look .nil, TysTEq_ok, TysTIm_ok, Lf.IvsOk.look .nil, Lf.FxsOk.look .nil⟩ (by kernel_rfl) (by kernel_rfl) (by kernel_rfl) (by kernel_rfl) (by kernel_rfl) (Nat.le_of_ble_eq_true rfl) (by simp [Lf.Ty.top]) (by simp [Lf.Ty.top]) fun z r h => (fault_In_eq z.1 z.2).trans h
noncomputable def fault_JoinCtx : Lf.Ctx := ⟨26, TysT, [], [3, 14], [25], [(3, (.rw 28 .tr)), (14, (.rw 28 .tr)), (25, .tr)], [], TysTEq, [], none, TysTIm, []⟩
noncomputable def fault_JoinCode : Go.Code := (Proofs.Tryd.f17.body).getD .skip
def fault_JoinAnn : Lf.Ann := (.seq .no (.seq .no (.seq (.seq .no (.loop ⟨[6, 7], [], [(8, (.int .i64)), (3, (.rw 28 .tr))], [], []⟩ (.one (.ext 0) ⟨[], [], [(3, (.rw 28 .tr))], [], []⟩) (.seq .no (.seq .no (.seq (.join (.one .nrm ⟨[6, 7, 8], [], [(3, (.rw 28 .tr))], [], []⟩) .no) .no))))) .no)))
noncomputable def fault_Join (a0 : List (Lf.Er)) : Option (Lf.Er) :=
 (Lf.loopC (σ := (Int) × (List (Lf.Er))) (κ := List (Lf.Er)) (fun z1 =>
     bif (decide (z1.1 < (((List.length a0) : Nat) : Int))) then (((Lf.idx a0 z1.1)).bind fun r2 =>
       bif (!(Lf.Er.isNil r2)) then ((Lf.app (16 : Nat) z1.2 (r2 :: ([] : List (Lf.Er))))).bind fun r3 =>
       some r3
       else some z1.2).bind fun r4 =>
     some (.inl ((IntKind.wrap .i64 (z1.1 + (1 : Int))), r4))
     else some (.inr z1.2)) ((0 : Int), ([] : List (Lf.Er))) : Option (List (Lf.Er))).bind fun r5 =>
 bif (decide (((((List.length r5) : Nat) : Int) : Int) = (0 : Int))) then some Lf.Er.nil
 else some (Lf.Er.nd (84 : Nat) false ([] : List (Lf.Ec)) (Lf.Tl.many r5))
theorem fault_Join_eq (a0 : List (Lf.Er)) : Lf.fnE fault_JoinCtx fault_JoinCode fault_JoinAnn [.val (.sl .tr)] [.tr] [.tmp 2] (a0) = fault_Join a0 := by kernel_rfl
noncomputable def fault_JoinEnt : Nat × Lf.Entry := (17, ⟨[.val (.sl .tr)], [.tr], fun z => fault_Join z⟩)
theorem fault_Join_ok : Lf.EntryOk Proofs.Tryd.prog GG 17 fault_JoinEnt.2 :=
  Lf.fn_ok (c := fault_JoinCtx) (code := fault_JoinCode) (an := fault_JoinAnn) (slots := [.tmp 2]) (fn := Proofs.Tryd.f17) (by kernel_rfl) ⟨TysT_ok, Lf.FnsOk.look .nil, Lf.IpsOk.look .nil, TysTEq_ok, TysTIm_ok, Lf.IvsOk.look .nil, Lf.FxsOk.look .nil⟩ (by kernel_rfl) (by kernel_rfl) (by kernel_rfl) (by kernel_rfl) (by kernel_rfl) (Nat.le_of_ble_eq_true rfl) (by simp [Lf.Ty.top]) (by simp [Lf.Ty.top]) fun z r h => (fault_Join_eq z).trans h
noncomputable def foliolaw01_madeCtx : Lf.Ctx := ⟨87, TysT, [fault_UnderEnt, fault_InEnt, fault_JoinEnt, fault_NewEnt, foliolaw01_withinEnt, foliolaw01_firstEnt], [2, 3, 81, 86], [], [(2, (.rw 28 .tr)), (3, (.rw 28 .tr)), (65, .tr), (73, .tr), (80, .tr), (81, (.rw 28 .tr)), (86, (.rw 28 .tr))], [], TysTEq, [], none, TysTIm, []⟩
noncomputable def foliolaw01_madeCode : Go.Code := (Proofs.Tryd.f10.body).getD .skip
def foliolaw01_madeAnn : Lf.Ann := (.seq .no (.seq .no (.seq (.seq .no (.loop ⟨[8, 9], [], [(10, (.int .i64)), (3, (.rw 28 .tr))], [], []⟩ (.one (.ext 0) ⟨[], [], [(3, (.rw 28 .tr))], [], []⟩) (.seq .no (.seq .no (.seq (.seq .no (.seq .no (.seq .no (.seq (.join (.one .nrm ⟨[8, 9, 10], [], [(7, .tr), (3, (.rw 28 .tr))], [], []⟩) (.seq .no (.seq .no (.cnd .no (.seq .no (.cnd (.soup 6) (.seq .no (.cnd (.soup 4) (.seq .no (.cnd .no (.seq .no (.cnd .no (.seq .no (.cnd (.soup 4) .no)))))))))))))) .no)))) .no))))) .no)))
noncomputable def foliolaw01_made (a0 : List vT16) : Option (List (Lf.Er)) :=
 (Lf.loopC (σ := (Int) × (List (Lf.Er))) (κ := List (Lf.Er)) (fun z1 =>
     bif (decide (z1.1 < (((List.length a0) : Nat) : Int))) then ((Lf.idx a0 z1.1)).bind fun r2 =>
     ((Go.Fn.foliolaw01_within z1.2 z1.1 r2.2.2.2.2.1)).bind fun r3 =>
     (bif (decide ((r2.1 : Int) = (0 : Int))) then ((Go.Fn.fault_New r2.2.1.1 r2.2.1.2.1 r2.2.1.2.2.1 r2.2.1.2.2.2.1 r2.2.1.2.2.2.2.1)).bind fun r4 =>
       some (r4, z1.2)
       else bif (decide ((r2.1 : Int) = (1 : Int))) then ((Go.Fn.foliolaw01_first r3)).bind fun r5 =>
       ((Go.Fn.fault_Under r5 r2.2.2.1 r2.2.2.2.1)).bind fun r6 =>
       some (r6, z1.2)
       else bif (decide ((r2.1 : Int) = (2 : Int))) then ((Go.Fn.foliolaw01_first r3)).bind fun r7 =>
       ((Go.Fn.fault_In r7 r2.2.2.2.1)).bind fun r8 =>
       some (r8, z1.2)
       else bif (decide ((r2.1 : Int) = (3 : Int))) then ((Go.Fn.fault_Join r3)).bind fun r9 =>
       some (r9, z1.2)
       else bif (decide ((r2.1 : Int) = (4 : Int))) then some ((Lf.Er.nd (72 : Nat) true ((Lf.Ec.v (Go.Eng.str r2.2.2.1)) :: ([] : List (Lf.Ec))) Lf.Tl.no), z1.2)
       else bif (decide ((r2.1 : Int) = (5 : Int))) then ((Go.Fn.foliolaw01_first r3)).bind fun r10 =>
       some ((Lf.Er.nd (74 : Nat) true ((Lf.Ec.v (Go.Eng.str r2.2.2.1)) :: ([] : List (Lf.Ec))) (Lf.Tl.one r10)), z1.2)
       else bif (decide ((r2.1 : Int) = (6 : Int))) then some ((Lf.Er.nd (76 : Nat) true ((Lf.Ec.v (Go.Eng.str r2.2.2.1)) :: ([] : List (Lf.Ec))) (Lf.Tl.many r3)), z1.2)
       else some (Lf.Er.nil, z1.2)).bind fun r11 =>
     ((Lf.app (16 : Nat) r11.2 (r11.1 :: ([] : List (Lf.Er))))).bind fun r12 =>
     some (.inl ((IntKind.wrap .i64 (z1.1 + (1 : Int))), r12))
     else some (.inr z1.2)) ((0 : Int), ([] : List (Lf.Er))) : Option (List (Lf.Er))).bind fun r13 =>
 some r13
theorem foliolaw01_made_eq (a0 : List vT16) : Lf.fnE foliolaw01_madeCtx foliolaw01_madeCode foliolaw01_madeAnn [.val (.sl vY18)] [(.rw 28 .tr)] [.tmp 2] (a0) = foliolaw01_made a0 := by kernel_rfl
noncomputable def foliolaw01_madeEnt : Nat × Lf.Entry := (10, ⟨[.val (.sl vY18)], [(.rw 28 .tr)], fun z => foliolaw01_made z⟩)
theorem foliolaw01_made_ok : Lf.EntryOk Proofs.Tryd.prog GG 10 foliolaw01_madeEnt.2 :=
  Lf.fn_ok (c := foliolaw01_madeCtx) (code := foliolaw01_madeCode) (an := foliolaw01_madeAnn) (slots := [.tmp 2]) (fn := Proofs.Tryd.f10) (by kernel_rfl) ⟨TysT_ok, Lf.FnsOk.look (.con fault_Under_ok (.con fault_In_ok (.con fault_Join_ok (.con fault_New_ok (.con foliolaw01_within_ok (.con foliolaw01_first_ok .nil)))))), Lf.IpsOk.look .nil, TysTEq_ok, TysTIm_ok, Lf.IvsOk.look .nil, Lf.FxsOk.look .nil⟩ (by kernel_rfl) (by kernel_rfl) (by kernel_rfl) (by kernel_rfl) (by kernel_rfl) (Nat.le_of_ble_eq_true rfl) (by simp [Lf.Ty.top]) (by simp [Lf.Ty.top]) fun z r h => (foliolaw01_made_eq z).trans h
noncomputable def folioref01_kidsCtx (self : (List vT16) × (Int) → Option (Bool)) : Lf.Ctx := ⟨89, TysT, [(12, ⟨[.val (.sl vY18), .val (.int .i64)], [.bool], self⟩)], [4, 5, 82, 88], [], [(4, (.rw 3 (.int .i64))), (5, (.rw 3 (.int .i64))), (82, (.rw 3 (.int .i64))), (88, (.rw 3 (.int .i64)))], [], TysTEq, [], none, TysTIm, []⟩
noncomputable def folioref01_kidsCode : Go.Code := (Proofs.Tryd.f37.body).getD .skip
def folioref01_kidsAnn : Lf.Ann := (.seq .no (.seq .no (.seq (.seq (.join (.one .nrm ⟨[0, 1], [], [(30, .bool), (5, (.rw 3 (.int .i64)))], [], []⟩) .no) .no) (.seq (.join (.one .nrm ⟨[0, 1], [], [(5, (.rw 3 (.int .i64))), (6, .bool)], [], []⟩) .no) (.seq (.seq .no (.loop ⟨[6, 0, 1, 57, 58], [], [(5, (.rw 3 (.int .i64))), (59, (.int .i64))], [], []⟩ (.one (.ext 0) ⟨[], [], [(5, (.rw 3 (.int .i64)))], [], []⟩) (.seq .no (.seq .no (.seq (.join (.more (.ext 0) ⟨[], [], [(5, (.rw 3 (.int .i64)))], [], []⟩ (.one .nrm ⟨[6, 0, 1, 57, 58, 59], [], [(5, (.rw 3 (.int .i64)))], [], []⟩)) (.seq .no (.seq (.seq (.join (.one .nrm ⟨[6, 0, 1, 57, 58, 59, 8], [], [(68, .bool), (5, (.rw 3 (.int .i64)))], [], []⟩) .no) .no) (.seq (.join (.one .nrm ⟨[6, 0, 1, 57, 58, 59, 8], [], [(81, .bool), (5, (.rw 3 (.int .i64)))], [], []⟩) .no) .no)))) .no))))) .no)))))
noncomputable def folioref01_kidsP (self : (List vT16) × (Int) → Option (Bool)) (a0 : List vT16) (a1 : Int) : Option (List (Int)) :=
 (((Lf.idx a0 a1)).bind fun r1 =>
   bif (!(decide ((r1.1 : Int) = (0 : Int)))) then ((Lf.idx a0 a1)).bind fun r2 =>
   bif (!(decide ((r2.1 : Int) = (4 : Int)))) then ((Lf.idx a0 a1)).bind fun r3 =>
   some ((decide ((r3.1 : Int) = (7 : Int))), ([] : List (Int)))
   else some (true, ([] : List (Int)))
   else some (true, ([] : List (Int)))).bind fun r4 =>
 bif r4.1 then some ([] : List (Int))
 else (((Lf.idx a0 a1)).bind fun r5 =>
   bif (!(decide ((r5.1 : Int) = (1 : Int)))) then ((Lf.idx a0 a1)).bind fun r6 =>
   bif (!(decide ((r6.1 : Int) = (2 : Int)))) then ((Lf.idx a0 a1)).bind fun r7 =>
   some (r4.2, (decide ((r7.1 : Int) = (5 : Int))))
   else some (r4.2, true)
   else some (r4.2, true)).bind fun r8 =>
 ((Lf.idx a0 a1)).bind fun r9 =>
 (Lf.loopC (σ := (List (Int)) × (Int)) (κ := List (Int)) (fun z10 =>
     bif (decide (z10.2 < (((List.length r9.2.2.2.2.1) : Nat) : Int))) then (((Lf.idx r9.2.2.2.2.1 z10.2)).bind fun r11 =>
       (bif r8.2 then some ((decide ((0 : Int) < (((List.length z10.1) : Nat) : Int))), z10.1)
         else some (false, z10.1)).bind fun r12 =>
       bif r12.1 then some (.inl r12.2)
       else (bif (decide ((0 : Int) ≤ r11)) then bif (decide (r11 < a1)) then ((self (a0, r11))).bind fun r13 =>
         some ((!r13), r12.2)
         else some (false, r12.2)
         else some (false, r12.2)).bind fun r14 =>
       bif r14.1 then ((Lf.app (8 : Nat) r14.2 (r11 :: ([] : List (Int))))).bind fun r15 =>
       some (.inr r15)
       else bif r8.2 then some (.inl r14.2)
       else some (.inr r14.2) : Option ((List (Int)) ⊕ (List (Int)))).bind fun r16 =>
     Lf.onSum r16 (fun a17 =>
     some (.inr a17)) (fun b18 =>
     some (.inl (b18, (IntKind.wrap .i64 (z10.2 + (1 : Int))))))
     else some (.inr z10.1)) (r8.1, (0 : Int)) : Option (List (Int))).bind fun r19 =>
 some r19
theorem folioref01_kids_eq (self : (List vT16) × (Int) → Option (Bool)) (a0 : List vT16) (a1 : Int) : Lf.fnE (folioref01_kidsCtx self) folioref01_kidsCode folioref01_kidsAnn [.val (.sl vY18), .val (.int .i64)] [(.sl (.int .i64))] [.tmp 4] (a0, a1) = folioref01_kidsP self a0 a1 := by kernel_rfl
noncomputable def folioref01_kidsPEnt (self : (List vT16) × (Int) → Option (Bool)) : Nat × Lf.Entry := (37, ⟨[.val (.sl vY18), .val (.int .i64)], [(.sl (.int .i64))], fun z => folioref01_kidsP self z.1 z.2⟩)
theorem folioref01_kids_okP (self : (List vT16) × (Int) → Option (Bool)) (ih : Lf.EntryOk Proofs.Tryd.prog GG 12 ⟨[.val (.sl vY18), .val (.int .i64)], [.bool], self⟩) : Lf.EntryOk Proofs.Tryd.prog GG 37 (folioref01_kidsPEnt self).2 :=
  Lf.fn_ok (c := (folioref01_kidsCtx self)) (code := folioref01_kidsCode) (an := folioref01_kidsAnn) (slots := [.tmp 4]) (fn := Proofs.Tryd.f37) (by kernel_rfl) ⟨TysT_ok, Lf.FnsOk.look (.cons ih .nil), Lf.IpsOk.look .nil, TysTEq_ok, TysTIm_ok, Lf.IvsOk.look .nil, Lf.FxsOk.look .nil⟩ (by kernel_rfl) (by kernel_rfl) (by kernel_rfl) (by kernel_rfl) (by kernel_rfl) (Nat.le_of_ble_eq_true rfl) (by simp [Lf.Ty.top]) (by simp [Lf.Ty.top]) fun z r h => (folioref01_kids_eq self z.1 z.2).trans h
noncomputable def folioref01_NilCtx (self : (List vT16) × (Int) → Option (Bool)) : Lf.Ctx := ⟨60, TysT, [(12, ⟨[.val (.sl vY18), .val (.int .i64)], [.bool], self⟩), folioref01_kidsPEnt self], [], [], [], [], TysTEq, [], none, TysTIm, []⟩
noncomputable def folioref01_NilCode : Go.Code := (Proofs.Tryd.f12.body).getD .skip
def folioref01_NilAnn : Lf.Ann := (.seq .no (.seq (.seq (.join (.one .nrm ⟨[0, 1], [], [(13, .bool)], [], []⟩) .no) .no) (.seq .no (.seq (.seq .no (.seq .no (.cnd .no (.seq (.join (.one .nrm ⟨[0, 1, 19], [(5, .ref 5 [] 0)], [(26, .bool)], [(5, 68, vY18)], []⟩) .no) (.cnd (.seq (.join (.one .nrm ⟨[], [], [(4, .bool)], [], []⟩) .no) .no) (.seq .no (.cnd .no (.seq (.join (.one .nrm ⟨[], [], [(56, .bool)], [], []⟩) .no) .no)))))))) .no))))
noncomputable def folioref01_NilB (self : (List vT16) × (Int) → Option (Bool)) (a0 : List vT16) (a1 : Int) : Option (Bool) :=
 (bif (!(decide (a1 < (0 : Int)))) then some (decide ((((List.length a0) : Nat) : Int) ≤ a1))
   else some true).bind fun r1 =>
 bif r1 then some true
 else ((Lf.idx a0 a1)).bind fun r2 =>
 bif (decide ((r2.1 : Int) = (0 : Int))) then some (decide ((r2.2.1.1 : Int) = (0 : Int)))
 else (bif (decide ((r2.1 : Int) = (1 : Int))) then some ((decide ((r2.1 : Int) = (1 : Int))), r2)
   else some ((decide ((r2.1 : Int) = (2 : Int))), r2)).bind fun r3 =>
 bif r3.1 then (bif (!(decide (((((List.length r3.2.2.2.2.2.1) : Nat) : Int) : Int) = (0 : Int)))) then ((Lf.idx r3.2.2.2.2.2.1 (0 : Int))).bind fun r4 =>
   bif (!(decide (a1 ≤ r4))) then ((Lf.idx r3.2.2.2.2.2.1 (0 : Int))).bind fun r5 =>
   ((self (a0, r5))).bind fun r6 =>
   some r6
   else some true
   else some true).bind fun r7 =>
 some r7
 else bif (decide ((r2.1 : Int) = (3 : Int))) then ((Go.Fn.folioref01_kidsP self a0 a1)).bind fun r8 =>
 some (decide (((((List.length r8) : Nat) : Int) : Int) = (0 : Int)))
 else (bif (decide ((r2.1 : Int) = (4 : Int))) then some (decide ((r2.1 : Int) = (4 : Int)))
   else bif (decide ((r2.1 : Int) = (5 : Int))) then some (decide ((r2.1 : Int) = (5 : Int)))
   else some (decide ((r2.1 : Int) = (6 : Int)))).bind fun r9 =>
 bif r9 then some false
 else some true
theorem folioref01_Nil_eq (self : (List vT16) × (Int) → Option (Bool)) (a0 : List vT16) (a1 : Int) : Lf.fnE (folioref01_NilCtx self) folioref01_NilCode folioref01_NilAnn [.val (.sl vY18), .val (.int .i64)] [.bool] [.tmp 4] (a0, a1) = folioref01_NilB self a0 a1 := by kernel_rfl
noncomputable def folioref01_NilN : Nat → (List vT16) × (Int) → Option (Bool)
 | 0 => fun _ => none
 | n + 1 => fun z => folioref01_NilB (folioref01_NilN n) z.1 z.2
noncomputable def folioref01_Nil (a0 : List vT16) (a1 : Int) : Option (Bool) := Lf.supC fun n => folioref01_NilN n (a0, a1)
noncomputable def folioref01_NilEnt : Nat × Lf.Entry := (12, ⟨[.val (.sl vY18), .val (.int .i64)], [.bool], fun z => folioref01_Nil z.1 z.2⟩)
theorem folioref01_Nil_ok : Lf.EntryOk Proofs.Tryd.prog GG 12 folioref01_NilEnt.2 :=
  Lf.rec_ok (ps := [.val (.sl vY18), .val (.int .i64)]) (rs := [.bool]) (N := folioref01_NilN) Proofs.Tryd.f12 (by kernel_rfl) (by kernel_rfl) (by kernel_rfl) (by simp [Lf.Ty.top]) (fun _ => rfl) fun n ih => Lf.fn_ok (c := folioref01_NilCtx (folioref01_NilN n)) (code := folioref01_NilCode) (an := folioref01_NilAnn) (slots := [.tmp 4]) (fn := Proofs.Tryd.f12) (by kernel_rfl) ⟨TysT_ok, Lf.FnsOk.look (.cons ih (.con (folioref01_kids_okP _ ih) .nil)), Lf.IpsOk.look .nil, TysTEq_ok, TysTIm_ok, Lf.IvsOk.look .nil, Lf.FxsOk.look .nil⟩ (by kernel_rfl) (by kernel_rfl) (by kernel_rfl) (by kernel_rfl) (by kernel_rfl) (Nat.le_of_ble_eq_true rfl) (by simp [Lf.Ty.top]) (by simp [Lf.Ty.top]) fun z r h => (folioref01_Nil_eq (folioref01_NilN n) z.1 z.2).trans h
noncomputable def folioref01_kids := folioref01_kidsP folioref01_NilEnt.2.f
noncomputable def folioref01_kidsEnt : Nat × Lf.Entry := (37, ⟨[.val (.sl vY18), .val (.int .i64)], [(.sl (.int .i64))], fun z => folioref01_kids z.1 z.2⟩)
theorem folioref01_kids_ok : Lf.EntryOk Proofs.Tryd.prog GG 37 folioref01_kidsEnt.2 := folioref01_kids_okP _ folioref01_Nil_ok
noncomputable def fault_gatherCtx (self : (Lf.Er) × (((Int) × vT5) × (List ((Int) × vT11))) → Option (List ((Int) × vT11))) : Lf.Ctx := ⟨110, TysT, [fault_Error__isEnt, (45, ⟨[.val .tr, .val vY10, .val (.rw 43 (.st vY14))], [(.rw 43 (.st vY14))], self⟩)], [2, 6, 37, 65, 84, 92, 106, 109], [], [(2, (.rw 43 (.st vY14))), (6, (.rw 43 (.st vY14))), (37, (.rw 43 (.st vY14))), (65, (.rw 43 (.st vY14))), (84, (.rw 43 (.st vY14))), (92, (.rw 43 (.st vY14))), (106, (.rw 43 (.st vY14))), (109, (.rw 43 (.st vY14))), (4000093, .dead 92 (.rw 43 (.st vY14)))], [], TysTEq, [], none, TysTIm, [(90, mUnwrapIv), (98, mUnwrapsIv)]⟩
noncomputable def fault_gatherCode : Go.Code := (Proofs.Tryd.f45.body).getD .skip
def fault_gatherAnn : Lf.Ann := (.seq .no (.seq (.join (.one .nrm ⟨[], [], [(2, (.rw 43 (.st vY14)))], [], []⟩) (.seq .no (.seq .no (.cnd .no (.seq .no (.cnd (.seq .no (.seq .no (.cnd (.seq .no (.seq (.join (.one .nrm ⟨[], [(9, .ref 9 [] 0), (4, .ref 4 [] 0)], [(2, (.rw 43 (.st vY14)))], [(9, 43, (.st vY14)), (4, 102, vY10)], []⟩) .no) .no)) .no))) (.seq .no (.cnd (.seq .no (.seq (.draw 13) (.draw 6))) (.seq .no (.cnd (.seq .no (.seq (.join (.one .nrm ⟨[11], [(4, .ref 4 [] 0)], [(2, (.rw 43 (.st vY14)))], [(4, 102, vY10)], []⟩) (.seq .no (.cnd (.draws 4 5) .no))) (.draw 6))) (.seq .no (.cnd (.seq .no (.souph 5 93 2)) (.seq .no (.cnd (.seq .no (.seq .no (.loop ⟨[98, 99], [(4, .ref 4 [] 0)], [(100, (.int .i64)), (2, (.rw 43 (.st vY14)))], [(4, 102, vY10)], []⟩ (.one (.ext 1) ⟨[], [], [(2, (.rw 43 (.st vY14)))], [], []⟩) .no))) .no)))))))))))))) .no))
noncomputable def fault_gatherB (self : (Lf.Er) × (((Int) × vT5) × (List ((Int) × vT11))) → Option (List ((Int) × vT11))) (a0 : Lf.Er) (a1 : (Int) × vT5) (a2 : List ((Int) × vT11)) : Option (List ((Int) × vT11)) :=
 (bif (Lf.Er.isNil a0) then some a2
   else ((Lf.asP (37 : Nat) (.st (.pr (.int .i64) (.pr (.st vY14) .unit))) a0)).bind fun r1 =>
   bif (Option.isSome r1) then ((Go.Fn.fault_Error__is r1)).bind fun r2 =>
   bif r2 then (r1).bind fun r3 =>
   (bif (decide ((a1.1 : Int) = (1 : Int))) then some (a2, ((r3.2.1.1, (a1.2.1, r3.2.1.2.2)), a1))
     else some (a2, (r3.2.1, a1))).bind fun r4 =>
   ((Lf.app (24 : Nat) ([] : List ((List (UInt8)) × ((Int) × (Unit)))) r4.2.2.2.2.1)).bind fun r5 =>
   ((Lf.app (72 : Nat) r4.1 ((r4.2.1.1, (r4.2.1.2.1, (r4.2.1.2.2.1, (r4.2.1.2.2.2.1, (r4.2.1.2.2.2.2.1, (r5, r4.2.1.2.2.2.2.2.2)))))) :: ([] : List ((Int) × vT11))))).bind fun r6 =>
   some r6
   else some a2
   else ((Lf.asP (78 : Nat) (.st (.pr vY0 (.pr .tr .unit))) a0)).bind fun r7 =>
   bif (Option.isSome r7) then ((Lf.full (((List.length a1.2.2.1) : Nat) : Int) (((List.length a1.2.2.1) : Nat) : Int) (List.length a1.2.2.1))).bind fun _ =>
   (r7).bind fun r9 =>
   ((Lf.appF (24 : Nat) a1.2.2.1 (r9.1 :: ([] : List ((List (UInt8)) × ((Int) × (Unit))))))).bind fun r10 =>
   (r7).bind fun r11 =>
   ((self (r11.2.1, ((a1.1, (a1.2.1, (r10, a1.2.2.2))), a2)))).bind fun r12 =>
   some r12
   else ((Lf.asP (81 : Nat) (.st (.pr (.int .i64) (.pr .tr .unit))) a0)).bind fun r13 =>
   bif (Option.isSome r13) then (bif (decide ((a1.1 : Int) = (0 : Int))) then (r13).bind fun r14 =>
     some (a2, ((1 : Int), (r14.1, a1.2.2)))
     else some (a2, a1)).bind fun r15 =>
   (r13).bind fun r16 =>
   ((self (r16.2.1, (r15.2, r15.1)))).bind fun r17 =>
   some r17
   else ((Lf.asI (((37 : Nat), false) :: (((78 : Nat), true) :: (((81 : Nat), true) :: (((84 : Nat), false) :: (((72 : Nat), false) :: (((74 : Nat), true) :: (((76 : Nat), false) :: ([] : List ((Nat) × (Bool)))))))))) a0)).bind fun r18 =>
   bif r18 then ((Go.Fn.mUnwrap (bif r18 then a0 else Lf.Er.nil))).bind fun r19 =>
   ((self (r19, (a1, a2)))).bind fun r20 =>
   some r20
   else ((Lf.asI (((37 : Nat), false) :: (((78 : Nat), false) :: (((81 : Nat), false) :: (((84 : Nat), true) :: (((72 : Nat), false) :: (((74 : Nat), false) :: (((76 : Nat), true) :: ([] : List ((Nat) × (Bool)))))))))) a0)).bind fun r21 =>
   bif r21 then ((Go.Fn.mUnwraps (bif r21 then a0 else Lf.Er.nil))).bind fun r22 =>
   (Lf.loopC (σ := (Int) × ((List ((Int) × vT11)) × ((Int) × vT5))) (κ := List ((Int) × vT11)) (fun z23 =>
       bif (decide (z23.1 < (((List.length r22) : Nat) : Int))) then ((Lf.idx r22 z23.1)).bind fun r24 =>
       ((self (r24, (z23.2.2, z23.2.1)))).bind fun r25 =>
       some (.inl ((IntKind.wrap .i64 (z23.1 + (1 : Int))), (r25, z23.2.2)))
       else some (.inr z23.2.1)) ((0 : Int), (a2, a1)) : Option (List ((Int) × vT11))).bind fun r26 =>
   some r26
   else some a2 : Option (List ((Int) × vT11))).bind fun r27 =>
 some r27
theorem fault_gather_eq (self : (Lf.Er) × (((Int) × vT5) × (List ((Int) × vT11))) → Option (List ((Int) × vT11))) (a0 : Lf.Er) (a1 : (Int) × vT5) (a2 : List ((Int) × vT11)) : Lf.fnE (fault_gatherCtx self) fault_gatherCode fault_gatherAnn [.val .tr, .val vY10, .val (.rw 43 (.st vY14))] [(.rw 43 (.st vY14))] [.tmp 6] (a0, a1, a2) = fault_gatherB self a0 a1 a2 := by kernel_rfl
noncomputable def fault_gatherN : Nat → (Lf.Er) × (((Int) × vT5) × (List ((Int) × vT11))) → Option (List ((Int) × vT11))
 | 0 => fun _ => none
 | n + 1 => fun z => fault_gatherB (fault_gatherN n) z.1 z.2.1 z.2.2
noncomputable def fault_gather (a0 : Lf.Er) (a1 : (Int) × vT5) (a2 : List ((Int) × vT11)) : Option (List ((Int) × vT11)) := Lf.supC fun n => fault_gatherN n (a0, a1, a2)
noncomputable def fault_gatherEnt : Nat × Lf.Entry := (45, ⟨[.val .tr, .val vY10, .val (.rw 43 (.st vY14))], [(.rw 43 (.st vY14))], fun z => fault_gather z.1 z.2.1 z.2.2⟩)
theorem fault_gather_ok : Lf.EntryOk Proofs.Tryd.prog GG 45 fault_gatherEnt.2 :=
  Lf.rec_ok (ps := [.val .tr, .val vY10, .val (.rw 43 (.st vY14))]) (rs := [(.rw 43 (.st vY14))]) (N := fault_gatherN) Proofs.Tryd.f45 (by kernel_rfl) (by kernel_rfl) (by kernel_rfl) (by simp [Lf.Ty.top]) (fun _ => rfl) fun n ih => Lf.fn_ok (c := fault_gatherCtx (fault_gatherN n)) (code := fault_gatherCode) (an := fault_gatherAnn) (slots := [.tmp 6]) (fn := Proofs.Tryd.f45) (by kernel_rfl) ⟨TysT_ok, Lf.FnsOk.look (.con fault_Error__is_ok (.cons ih .nil)), Lf.IpsOk.look .nil, TysTEq_ok, TysTIm_ok, Lf.IvsOk.look (.cons mUnwrap_iv (.cons mUnwraps_iv .nil)), Lf.FxsOk.look .nil⟩ (by kernel_rfl) (by kernel_rfl) (by kernel_rfl) (by kernel_rfl) (by kernel_rfl) (Nat.le_of_ble_eq_true rfl) (by simp [Lf.Ty.top]) (by simp [Lf.Ty.top]) fun z r h => (fault_gather_eq (fault_gatherN n) z.1 z.2.1 z.2.2).trans h
noncomputable def fault_bareCtx : Lf.Ctx := ⟨30, TysT, [], [2, 3, 8, 12], [], [(2, (.rw 66 vY0)), (3, (.rw 66 vY0)), (8, (.rw 66 vY0)), (12, (.rw 66 vY0))], [], TysTEq, [], none, TysTIm, []⟩
noncomputable def fault_bareCode : Go.Code := (Proofs.Tryd.f46.body).getD .skip
def fault_bareAnn : Lf.Ann := (.seq .no (.seq .no (.loop ⟨[], [], [(3, (.rw 66 vY0)), (0, .tr)], [], []⟩ (.one .ret ⟨[], [], [(2, (.rw 66 vY0))], [], []⟩) .no)))
noncomputable def fault_bare (a0 : Lf.Er) : Option vT1 :=
 (Lf.loopC (σ := vT1 × (Lf.Er)) (κ := List ((List (UInt8)) × ((Int) × (Unit)))) (fun z1 =>
     ((Lf.asP (78 : Nat) (.st (.pr vY0 (.pr .tr .unit))) z1.2)).bind fun r2 =>
     bif (Option.isSome r2) then (r2).bind fun r3 =>
     ((Lf.app (24 : Nat) z1.1 (r3.1 :: ([] : List ((List (UInt8)) × ((Int) × (Unit))))))).bind fun r4 =>
     (r2).bind fun r5 =>
     some (.inl (r4, r5.2.1))
     else ((Lf.asP (81 : Nat) (.st (.pr (.int .i64) (.pr .tr .unit))) z1.2)).bind fun r6 =>
     bif (Option.isSome r6) then (r6).bind fun r7 =>
     some (.inl (z1.1, r7.2.1))
     else some (.inr z1.1)) (([] : List ((List (UInt8)) × ((Int) × (Unit)))), a0) : Option vT1).bind fun r8 =>
 some r8
theorem fault_bare_eq (a0 : Lf.Er) : Lf.fnE fault_bareCtx fault_bareCode fault_bareAnn [.val .tr] [(.rw 66 vY0)] [.tmp 2] (a0) = fault_bare a0 := by kernel_rfl
noncomputable def fault_bareEnt : Nat × Lf.Entry := (46, ⟨[.val .tr], [(.rw 66 vY0)], fun z => fault_bare z⟩)
theorem fault_bare_ok : Lf.EntryOk Proofs.Tryd.prog GG 46 fault_bareEnt.2 :=
  Lf.fn_ok (c := fault_bareCtx) (code := fault_bareCode) (an := fault_bareAnn) (slots := [.tmp 2]) (fn := Proofs.Tryd.f46) (by kernel_rfl) ⟨TysT_ok, Lf.FnsOk.look .nil, Lf.IpsOk.look .nil, TysTEq_ok, TysTIm_ok, Lf.IvsOk.look .nil, Lf.FxsOk.look .nil⟩ (by kernel_rfl) (by kernel_rfl) (by kernel_rfl) (by kernel_rfl) (by kernel_rfl) (Nat.le_of_ble_eq_true rfl) (by simp [Lf.Ty.top]) (by simp [Lf.Ty.top]) fun z r h => (fault_bare_eq z).trans h
noncomputable def fault_AllCtx : Lf.Ctx := ⟨17, TysT, [fault_gatherEnt, fault_bareEnt], [2, 3, 12], [], [(2, (.rw 43 (.st vY14))), (3, (.rw 43 (.st vY14))), (12, (.rw 43 (.st vY14)))], [], TysTEq, [], none, TysTIm, []⟩
noncomputable def fault_AllCode : Go.Code := (Proofs.Tryd.f25.body).getD .skip
def fault_AllAnn : Lf.Ann := .no
noncomputable def fault_All (a0 : Lf.Er) : Option (List ((Int) × vT11)) :=
 bif (Lf.Er.isNil a0) then some ([] : List ((Int) × vT11))
 else ((Go.Fn.fault_gather a0 ((0 : Int), ((0 : Int), (([] : List ((List (UInt8)) × ((Int) × (Unit)))), ()))) ([] : List ((Int) × vT11)))).bind fun r1 =>
 bif (decide ((0 : Int) < (((List.length r1) : Nat) : Int))) then some r1
 else ((Go.Fn.fault_bare a0)).bind fun r2 =>
 some (((10 : Int), ((0 : Int), ((0 : Int), ((0 : Int), (([] : List (UInt8)), (r2, ())))))) :: ([] : List ((Int) × vT11)))
theorem fault_All_eq (a0 : Lf.Er) : Lf.fnE fault_AllCtx fault_AllCode fault_AllAnn [.val .tr] [(.rw 43 (.st vY14))] [.tmp 2] (a0) = fault_All a0 := by kernel_rfl
noncomputable def fault_AllEnt : Nat × Lf.Entry := (25, ⟨[.val .tr], [(.rw 43 (.st vY14))], fun z => fault_All z⟩)
theorem fault_All_ok : Lf.EntryOk Proofs.Tryd.prog GG 25 fault_AllEnt.2 :=
  Lf.fn_ok (c := fault_AllCtx) (code := fault_AllCode) (an := fault_AllAnn) (slots := [.tmp 2]) (fn := Proofs.Tryd.f25) (by kernel_rfl) ⟨TysT_ok, Lf.FnsOk.look (.con fault_gather_ok (.con fault_bare_ok .nil)), Lf.IpsOk.look .nil, TysTEq_ok, TysTIm_ok, Lf.IvsOk.look .nil, Lf.FxsOk.look .nil⟩ (by kernel_rfl) (by kernel_rfl) (by kernel_rfl) (by kernel_rfl) (by kernel_rfl) (Nat.le_of_ble_eq_true rfl) (by simp [Lf.Ty.top]) (by simp [Lf.Ty.top]) fun z r h => (fault_All_eq z).trans h
noncomputable def folioref01_faultsCtx (self : (List vT16) × ((Int) × (vT1 × ((Int) × (Bool)))) → Option (List ((Int) × vT11))) : Lf.Ctx := ⟨88, TysT, [folioref01_kidsEnt, (43, ⟨[.val (.sl vY18), .val (.int .i64), .val (.sl vY0), .val (.int .i64), .val .bool], [(.sl (.st vY14))], self⟩)], [10, 13, 14, 45, 53, 56, 78, 87], [], [(10, (.rw 43 (.st vY14))), (12, vY15), (13, (.rw 66 vY0)), (14, (.rw 43 (.st vY14))), (40, vY15), (45, (.rw 66 vY0)), (53, (.rw 66 vY0)), (56, (.rw 66 vY0)), (78, (.rw 43 (.st vY14))), (87, (.rw 43 (.st vY14)))], [], TysTEq, [], none, TysTIm, []⟩
noncomputable def folioref01_faultsCode : Go.Code := (Proofs.Tryd.f43.body).getD .skip
def folioref01_faultsAnn : Lf.Ann := (.seq .no (.seq .no (.seq (.join (.more .ret ⟨[], [], [(10, (.rw 43 (.st vY14)))], [], []⟩ (.one .nrm ⟨[0, 1], [], [(4, .bool), (3, (.int .i64)), (2, (.sl vY0))], [], []⟩)) (.seq .no (.seq .no (.cnd (.seq .no (.seq (.join (.one .nrm ⟨[2], [(12, .ref 12 [] 0)], [], [(12, 43, vY15)], []⟩) .no) .no)) .no)))) (.seq .no (.seq (.seq .no (.loop ⟨[4, 3, 2, 0, 72, 73], [], [(74, (.int .i64)), (14, (.rw 43 (.st vY14)))], [], []⟩ (.one (.ext 1) ⟨[], [], [(14, (.rw 43 (.st vY14)))], [], []⟩) .no)) .no)))))
noncomputable def folioref01_faultsB (self : (List vT16) × ((Int) × (vT1 × ((Int) × (Bool)))) → Option (List ((Int) × vT11))) (a0 : List vT16) (a1 : Int) (a2 : List ((List (UInt8)) × ((Int) × (Unit)))) (a3 : Int) (a4 : Bool) : Option (List ((Int) × vT11)) :=
 ((Lf.idx a0 a1)).bind fun r1 =>
 (bif (decide ((r1.1 : Int) = (0 : Int))) then (bif a4 then some (r1.2.1.1, (a3, (r1.2.1.2.2.1, (r1.2.1.2.2.2.1, (r1.2.1.2.2.2.2.1, (([] : List ((List (UInt8)) × ((Int) × (Unit)))), ()))))))
     else some (r1.2.1.1, (r1.2.1.2.1, (r1.2.1.2.2.1, (r1.2.1.2.2.2.1, (r1.2.1.2.2.2.2.1, (([] : List ((List (UInt8)) × ((Int) × (Unit)))), ()))))))).bind fun r2 =>
   ((Lf.app (24 : Nat) r2.2.2.2.2.2.1 a2)).bind fun r3 =>
   some (.inl ((r2.1, (r2.2.1, (r2.2.2.1, (r2.2.2.2.1, (r2.2.2.2.2.1, (r3, r2.2.2.2.2.2.2)))))) :: ([] : List ((Int) × vT11))))
   else bif (decide ((r1.1 : Int) = (1 : Int))) then ((Lf.app (24 : Nat) ([] : List ((List (UInt8)) × ((Int) × (Unit)))) a2)).bind fun r4 =>
   ((Lf.app (24 : Nat) r4 ((r1.2.2.1, (r1.2.2.2.1, ())) :: ([] : List ((List (UInt8)) × ((Int) × (Unit))))))).bind fun r5 =>
   some (.inr (a4, (a3, r5)))
   else bif (decide ((r1.1 : Int) = (2 : Int))) then bif (!a4) then some (.inr (true, (r1.2.2.2.1, a2)))
   else some (.inr (a4, (a3, a2)))
   else some (.inr (a4, (a3, a2))) : Option ((List ((Int) × vT11)) ⊕ ((Bool) × ((Int) × vT1)))).bind fun r6 =>
 Lf.onSum r6 (fun a7 =>
 some a7) (fun b8 =>
 ((Go.Fn.folioref01_kids a0 a1)).bind fun r9 =>
 (Lf.loopC (σ := (Int) × (List ((Int) × vT11))) (κ := List ((Int) × vT11)) (fun z10 =>
     bif (decide (z10.1 < (((List.length r9) : Nat) : Int))) then ((Lf.idx r9 z10.1)).bind fun r11 =>
     ((self (a0, (r11, (b8.2.2, (b8.2.1, b8.1)))))).bind fun r12 =>
     ((Lf.app (72 : Nat) z10.2 r12)).bind fun r13 =>
     some (.inl ((IntKind.wrap .i64 (z10.1 + (1 : Int))), r13))
     else some (.inr z10.2)) ((0 : Int), ([] : List ((Int) × vT11))) : Option (List ((Int) × vT11))).bind fun r14 =>
 some r14)
theorem folioref01_faults_eq (self : (List vT16) × ((Int) × (vT1 × ((Int) × (Bool)))) → Option (List ((Int) × vT11))) (a0 : List vT16) (a1 : Int) (a2 : List ((List (UInt8)) × ((Int) × (Unit)))) (a3 : Int) (a4 : Bool) : Lf.fnE (folioref01_faultsCtx self) folioref01_faultsCode folioref01_faultsAnn [.val (.sl vY18), .val (.int .i64), .val (.sl vY0), .val (.int .i64), .val .bool] [(.sl (.st vY14))] [.tmp 10] (a0, a1, a2, a3, a4) = folioref01_faultsB self a0 a1 a2 a3 a4 := by kernel_rfl
noncomputable def folioref01_faultsN : Nat → (List vT16) × ((Int) × (vT1 × ((Int) × (Bool)))) → Option (List ((Int) × vT11))
 | 0 => fun _ => none
 | n + 1 => fun z => folioref01_faultsB (folioref01_faultsN n) z.1 z.2.1 z.2.2.1 z.2.2.2.1 z.2.2.2.2
noncomputable def folioref01_faults (a0 : List vT16) (a1 : Int) (a2 : List ((List (UInt8)) × ((Int) × (Unit)))) (a3 : Int) (a4 : Bool) : Option (List ((Int) × vT11)) := Lf.supC fun n => folioref01_faultsN n (a0, a1, a2, a3, a4)
noncomputable def folioref01_faultsEnt : Nat × Lf.Entry := (43, ⟨[.val (.sl vY18), .val (.int .i64), .val (.sl vY0), .val (.int .i64), .val .bool], [(.sl (.st vY14))], fun z => folioref01_faults z.1 z.2.1 z.2.2.1 z.2.2.2.1 z.2.2.2.2⟩)
theorem folioref01_faults_ok : Lf.EntryOk Proofs.Tryd.prog GG 43 folioref01_faultsEnt.2 :=
  Lf.rec_ok (ps := [.val (.sl vY18), .val (.int .i64), .val (.sl vY0), .val (.int .i64), .val .bool]) (rs := [(.sl (.st vY14))]) (N := folioref01_faultsN) Proofs.Tryd.f43 (by kernel_rfl) (by kernel_rfl) (by kernel_rfl) (by simp [Lf.Ty.top]) (fun _ => rfl) fun n ih => Lf.fn_ok (c := folioref01_faultsCtx (folioref01_faultsN n)) (code := folioref01_faultsCode) (an := folioref01_faultsAnn) (slots := [.tmp 10]) (fn := Proofs.Tryd.f43) (by kernel_rfl) ⟨TysT_ok, Lf.FnsOk.look (.con folioref01_kids_ok (.cons ih .nil)), Lf.IpsOk.look .nil, TysTEq_ok, TysTIm_ok, Lf.IvsOk.look .nil, Lf.FxsOk.look .nil⟩ (by kernel_rfl) (by kernel_rfl) (by kernel_rfl) (by kernel_rfl) (by kernel_rfl) (Nat.le_of_ble_eq_true rfl) (by simp [Lf.Ty.top]) (by simp [Lf.Ty.top]) fun z r h => (folioref01_faults_eq (folioref01_faultsN n) z.1 z.2.1 z.2.2.1 z.2.2.2.1 z.2.2.2.2).trans h
noncomputable def folioref01_AllCtx : Lf.Ctx := ⟨60, TysT, [folioref01_NilEnt, folioref01_kidsEnt, folioref01_faultsEnt], [4, 5, 18, 31], [], [(4, (.rw 43 (.st vY14))), (5, (.rw 43 (.st vY14))), (6, vY15), (18, (.rw 43 (.st vY14))), (19, vY15), (31, (.rw 66 vY0))], [], TysTEq, [], none, TysTIm, []⟩
noncomputable def folioref01_AllCode : Go.Code := (Proofs.Tryd.f26.body).getD .skip
def folioref01_AllAnn : Lf.Ann := (.seq .no (.seq .no (.seq .no (.seq .no (.seq .no (.seq (.seq .no (.loop ⟨[0], [(6, .ref 6 [] 0)], [(7, (.int .i64))], [(6, 43, vY15)], []⟩ (.one (.ext 0) ⟨[], [(6, .ref 6 [] 0)], [], [(6, 43, vY15)], []⟩) (.seq .no (.seq (.join (.more .nrm ⟨[0, 8], [(6, .ref 6 [] 0)], [], [(6, 43, vY15)], []⟩ (.one (.ext 0) ⟨[], [(6, .ref 6 [] 0)], [], [(6, 43, vY15)], []⟩)) (.seq .no (.cnd (.draw 13) .no))) .no)))) .no))))))
noncomputable def folioref01_All (a0 : List vT16) (a1 : Int) : Option (List ((Int) × vT11)) :=
 ((Go.Fn.folioref01_Nil a0 a1)).bind fun r1 =>
 bif r1 then some ([] : List ((Int) × vT11))
 else ((Go.Fn.folioref01_faults a0 a1 ([] : List ((List (UInt8)) × ((Int) × (Unit)))) (0 : Int) false)).bind fun r2 =>
 bif (decide ((0 : Int) < (((List.length r2) : Nat) : Int))) then some r2
 else (Lf.loopC (σ := (Int) × ((Int) × vT11)) (κ := (Int) × vT11) (fun z3 =>
     ((Go.Fn.folioref01_kids a0 z3.1)).bind fun r4 =>
     (((Lf.idx a0 z3.1)).bind fun r5 =>
       bif (decide ((r5.1 : Int) = (1 : Int))) then ((Lf.idx a0 z3.1)).bind fun r6 =>
       ((Lf.idx a0 z3.1)).bind fun r7 =>
       ((Lf.app (24 : Nat) z3.2.2.2.2.2.2.1 ((r6.2.2.1, (r7.2.2.2.1, ())) :: ([] : List ((List (UInt8)) × ((Int) × (Unit))))))).bind fun r8 =>
       some (.inl (z3.2.1, (z3.2.2.1, (z3.2.2.2.1, (z3.2.2.2.2.1, (z3.2.2.2.2.2.1, (r8, z3.2.2.2.2.2.2.2)))))))
       else ((Lf.idx a0 z3.1)).bind fun r9 =>
       bif (decide ((r9.1 : Int) ≠ (2 : Int))) then some (.inr z3.2)
       else some (.inl z3.2) : Option (((Int) × vT11) ⊕ ((Int) × vT11))).bind fun r10 =>
     Lf.onSum r10 (fun a11 =>
     bif (decide (((((List.length r4) : Nat) : Int) : Int) ≠ (1 : Int))) then some (.inr a11)
     else ((Lf.idx r4 (0 : Int))).bind fun r12 =>
     some (.inl (r12, a11))) (fun b13 =>
     some (.inr b13))) (a1, ((10 : Int), ((0 : Int), ((0 : Int), ((0 : Int), (([] : List (UInt8)), (([] : List ((List (UInt8)) × ((Int) × (Unit)))), ()))))))) : Option ((Int) × vT11)).bind fun r14 =>
 some ((r14.1, (r14.2.1, (r14.2.2.1, (r14.2.2.2.1, (r14.2.2.2.2.1, (r14.2.2.2.2.2.1, r14.2.2.2.2.2.2)))))) :: ([] : List ((Int) × vT11)))
theorem folioref01_All_eq (a0 : List vT16) (a1 : Int) : Lf.fnE folioref01_AllCtx folioref01_AllCode folioref01_AllAnn [.val (.sl vY18), .val (.int .i64)] [(.sl (.st vY14))] [.tmp 4] (a0, a1) = folioref01_All a0 a1 := by kernel_rfl
noncomputable def folioref01_AllEnt : Nat × Lf.Entry := (26, ⟨[.val (.sl vY18), .val (.int .i64)], [(.sl (.st vY14))], fun z => folioref01_All z.1 z.2⟩)
theorem folioref01_All_ok : Lf.EntryOk Proofs.Tryd.prog GG 26 folioref01_AllEnt.2 :=
  Lf.fn_ok (c := folioref01_AllCtx) (code := folioref01_AllCode) (an := folioref01_AllAnn) (slots := [.tmp 4]) (fn := Proofs.Tryd.f26) (by kernel_rfl) ⟨TysT_ok, Lf.FnsOk.look (.con folioref01_Nil_ok (.con folioref01_kids_ok (.con folioref01_faults_ok .nil))), Lf.IpsOk.look .nil, TysTEq_ok, TysTIm_ok, Lf.IvsOk.look .nil, Lf.FxsOk.look .nil⟩ (by kernel_rfl) (by kernel_rfl) (by kernel_rfl) (by kernel_rfl) (by kernel_rfl) (Nat.le_of_ble_eq_true rfl) (by simp [Lf.Ty.top]) (by simp [Lf.Ty.top]) fun z r h => (folioref01_All_eq z.1 z.2).trans h
noncomputable def folioref01_SameCtx : Lf.Ctx := ⟨83, TysT, [], [], [], [], [], TysTEq, [], none, TysTIm, []⟩
noncomputable def folioref01_SameCode : Go.Code := (Proofs.Tryd.f21.body).getD .skip
def folioref01_SameAnn : Lf.Ann := (.seq .no (.seq (.seq (.join (.one .nrm ⟨[], [(3, .ref 3 [] 0), (2, .ref 2 [] 0)], [(47, .bool)], [(3, 43, (.st vY14)), (2, 43, (.st vY14))], []⟩) .no) .no) (.seq (.seq .no (.loop ⟨[50], [(3, .ref 3 [] 0), (2, .ref 2 [] 0)], [(51, (.int .i64))], [(3, 43, (.st vY14)), (2, 43, (.st vY14))], []⟩ (.more (.ext 0) ⟨[], [], [], [], []⟩ (.one .ret ⟨[], [], [(4, .bool)], [], []⟩)) (.seq .no (.seq .no (.seq (.seq .no (.seq (.join (.one .nrm ⟨[50, 51], [(3, .ref 3 [] 0), (2, .ref 2 [] 0)], [(81, .bool)], [(3, 43, (.st vY14)), (2, 43, (.st vY14))], []⟩) (.draw 28)) .no)) .no))))) .no)))
noncomputable def folioref01_Same (a0 : (Int) × vT11) (a1 : (Int) × vT11) : Option (Bool) :=
 (bif (!(decide ((a0.1 : Int) ≠ a1.1))) then bif (!(decide ((a0.2.1 : Int) ≠ a1.2.1))) then bif (!(decide ((a0.2.2.1 : Int) ≠ a1.2.2.1))) then bif (!(decide ((a0.2.2.2.1 : Int) ≠ a1.2.2.2.1))) then bif (!(decide ((a0.2.2.2.2.1 : List (UInt8)) ≠ a1.2.2.2.2.1))) then some ((decide (((((List.length a0.2.2.2.2.2.1) : Nat) : Int) : Int) ≠ (((List.length a1.2.2.2.2.2.1) : Nat) : Int))), (a1, a0))
   else some (true, (a1, a0))
   else some (true, (a1, a0))
   else some (true, (a1, a0))
   else some (true, (a1, a0))
   else some (true, (a1, a0))).bind fun r1 =>
 bif r1.1 then some false
 else (Lf.loopC (σ := (Int) × (((Int) × vT11) × ((Int) × vT11))) (κ := (Unit) ⊕ (Bool)) (fun z2 =>
     bif (decide (z2.1 < (((List.length r1.2.2.2.2.2.2.2.1) : Nat) : Int))) then (((Lf.idx z2.2.2.2.2.2.2.2.1 z2.1)).bind fun r3 =>
       ((Lf.idx z2.2.1.2.2.2.2.2.1 z2.1)).bind fun r4 =>
       bif (!(decide ((r3.1 : List (UInt8)) ≠ r4.1))) then ((Lf.idx z2.2.2.2.2.2.2.2.1 z2.1)).bind fun r5 =>
       ((Lf.idx z2.2.1.2.2.2.2.2.1 z2.1)).bind fun r6 =>
       some ((decide ((r5.2.1 : Int) ≠ r6.2.1)), (z2.2.1, z2.2.2))
       else some (true, (z2.2.1, z2.2.2))).bind fun r7 =>
     bif r7.1 then some (.inr (.inr false))
     else some (.inl ((IntKind.wrap .i64 (z2.1 + (1 : Int))), (r7.2.1, r7.2.2)))
     else some (.inr (.inl ()))) ((0 : Int), (r1.2.1, r1.2.2)) : Option ((Unit) ⊕ (Bool))).bind fun r8 =>
 Lf.onSum r8 (fun _ =>
 some true) (fun b10 =>
 some b10)
theorem folioref01_Same_eq (a0 : (Int) × vT11) (a1 : (Int) × vT11) : Lf.fnE folioref01_SameCtx folioref01_SameCode folioref01_SameAnn [.val (.st vY14), .val (.st vY14)] [.bool] [.tmp 4] (a0, a1) = folioref01_Same a0 a1 := by kernel_rfl
noncomputable def folioref01_SameEnt : Nat × Lf.Entry := (21, ⟨[.val (.st vY14), .val (.st vY14)], [.bool], fun z => folioref01_Same z.1 z.2⟩)
theorem folioref01_Same_ok : Lf.EntryOk Proofs.Tryd.prog GG 21 folioref01_SameEnt.2 :=
  Lf.fn_ok (c := folioref01_SameCtx) (code := folioref01_SameCode) (an := folioref01_SameAnn) (slots := [.tmp 4]) (fn := Proofs.Tryd.f21) (by kernel_rfl) ⟨TysT_ok, Lf.FnsOk.look .nil, Lf.IpsOk.look .nil, TysTEq_ok, TysTIm_ok, Lf.IvsOk.look .nil, Lf.FxsOk.look .nil⟩ (by kernel_rfl) (by kernel_rfl) (by kernel_rfl) (by kernel_rfl) (by kernel_rfl) (Nat.le_of_ble_eq_true rfl) (by simp [Lf.Ty.top]) (by simp [Lf.Ty.top]) fun z r h => (folioref01_Same_eq z.1 z.2).trans h
noncomputable def folioref01_SameAllCtx : Lf.Ctx := ⟨27, TysT, [folioref01_SameEnt], [], [], [], [], TysTEq, [], none, TysTIm, []⟩
noncomputable def folioref01_SameAllCode : Go.Code := (Proofs.Tryd.f24.body).getD .skip
def folioref01_SameAllAnn : Lf.Ann := (.seq .no (.seq .no (.seq (.seq .no (.loop ⟨[1, 0, 12], [], [(13, (.int .i64))], [], []⟩ (.more (.ext 0) ⟨[], [], [], [], []⟩ (.one .ret ⟨[], [], [(4, .bool)], [], []⟩)) (.seq .no (.seq .no (.seq (.seq .no (.seq (.draw 10) .no)) .no))))) .no)))
noncomputable def folioref01_SameAll (a0 : List ((Int) × vT11)) (a1 : List ((Int) × vT11)) : Option (Bool) :=
 bif (decide (((((List.length a0) : Nat) : Int) : Int) ≠ (((List.length a1) : Nat) : Int))) then some false
 else (Lf.loopC (σ := Int) (κ := (Unit) ⊕ (Bool)) (fun z1 =>
     bif (decide (z1 < (((List.length a0) : Nat) : Int))) then ((Lf.idx a0 z1)).bind fun r2 =>
     ((Lf.idx a1 z1)).bind fun r3 =>
     ((Go.Fn.folioref01_Same r2 r3)).bind fun r4 =>
     bif (!r4) then some (.inr (.inr false))
     else some (.inl (IntKind.wrap .i64 (z1 + (1 : Int))))
     else some (.inr (.inl ()))) (0 : Int) : Option ((Unit) ⊕ (Bool))).bind fun r5 =>
 Lf.onSum r5 (fun _ =>
 some true) (fun b7 =>
 some b7)
theorem folioref01_SameAll_eq (a0 : List ((Int) × vT11)) (a1 : List ((Int) × vT11)) : Lf.fnE folioref01_SameAllCtx folioref01_SameAllCode folioref01_SameAllAnn [.val (.sl (.st vY14)), .val (.sl (.st vY14))] [.bool] [.tmp 4] (a0, a1) = folioref01_SameAll a0 a1 := by kernel_rfl
noncomputable def folioref01_SameAllEnt : Nat × Lf.Entry := (24, ⟨[.val (.sl (.st vY14)), .val (.sl (.st vY14))], [.bool], fun z => folioref01_SameAll z.1 z.2⟩)
theorem folioref01_SameAll_ok : Lf.EntryOk Proofs.Tryd.prog GG 24 folioref01_SameAllEnt.2 :=
  Lf.fn_ok (c := folioref01_SameAllCtx) (code := folioref01_SameAllCode) (an := folioref01_SameAllAnn) (slots := [.tmp 4]) (fn := Proofs.Tryd.f24) (by kernel_rfl) ⟨TysT_ok, Lf.FnsOk.look (.con folioref01_Same_ok .nil), Lf.IpsOk.look .nil, TysTEq_ok, TysTIm_ok, Lf.IvsOk.look .nil, Lf.FxsOk.look .nil⟩ (by kernel_rfl) (by kernel_rfl) (by kernel_rfl) (by kernel_rfl) (by kernel_rfl) (Nat.le_of_ble_eq_true rfl) (by simp [Lf.Ty.top]) (by simp [Lf.Ty.top]) fun z r h => (folioref01_SameAll_eq z.1 z.2).trans h
noncomputable def fault_ToldCtx : Lf.Ctx := ⟨13, TysT, [fault_AllEnt], [], [], [], [], TysTEq, [], none, TysTIm, []⟩
noncomputable def fault_ToldCode : Go.Code := (Proofs.Tryd.f27.body).getD .skip
def fault_ToldAnn : Lf.Ann := .no
noncomputable def fault_Told (a0 : Lf.Er) : Option ((Int) × vT11) :=
 ((Go.Fn.fault_All a0)).bind fun r1 =>
 bif (decide (((((List.length r1) : Nat) : Int) : Int) = (0 : Int))) then some ((0 : Int), ((0 : Int), ((0 : Int), ((0 : Int), (([] : List (UInt8)), (([] : List ((List (UInt8)) × ((Int) × (Unit)))), ()))))))
 else ((Lf.idx r1 (0 : Int))).bind fun r2 =>
 some r2
theorem fault_Told_eq (a0 : Lf.Er) : Lf.fnE fault_ToldCtx fault_ToldCode fault_ToldAnn [.val .tr] [(.st vY14)] [.cell 2 43] (a0) = fault_Told a0 := by kernel_rfl
noncomputable def fault_ToldEnt : Nat × Lf.Entry := (27, ⟨[.val .tr], [(.st vY14)], fun z => fault_Told z⟩)
theorem fault_Told_ok : Lf.EntryOk Proofs.Tryd.prog GG 27 fault_ToldEnt.2 :=
  Lf.fn_ok (c := fault_ToldCtx) (code := fault_ToldCode) (an := fault_ToldAnn) (slots := [.cell 2 43]) (fn := Proofs.Tryd.f27) (by kernel_rfl) ⟨TysT_ok, Lf.FnsOk.look (.con fault_All_ok .nil), Lf.IpsOk.look .nil, TysTEq_ok, TysTIm_ok, Lf.IvsOk.look .nil, Lf.FxsOk.look .nil⟩ (by kernel_rfl) (by kernel_rfl) (by kernel_rfl) (by kernel_rfl) (by kernel_rfl) (Nat.le_of_ble_eq_true rfl) (by simp [Lf.Ty.top]) (by simp [Lf.Ty.top]) fun z r h => (fault_Told_eq z).trans h
noncomputable def folioref01_ToldCtx : Lf.Ctx := ⟨16, TysT, [folioref01_AllEnt], [], [], [], [], TysTEq, [], none, TysTIm, []⟩
noncomputable def folioref01_ToldCode : Go.Code := (Proofs.Tryd.f19.body).getD .skip
def folioref01_ToldAnn : Lf.Ann := .no
noncomputable def folioref01_Told (a0 : List vT16) (a1 : Int) : Option ((Int) × vT11) :=
 ((Go.Fn.folioref01_All a0 a1)).bind fun r1 =>
 bif (decide (((((List.length r1) : Nat) : Int) : Int) = (0 : Int))) then some ((0 : Int), ((0 : Int), ((0 : Int), ((0 : Int), (([] : List (UInt8)), (([] : List ((List (UInt8)) × ((Int) × (Unit)))), ()))))))
 else ((Lf.idx r1 (0 : Int))).bind fun r2 =>
 some r2
theorem folioref01_Told_eq (a0 : List vT16) (a1 : Int) : Lf.fnE folioref01_ToldCtx folioref01_ToldCode folioref01_ToldAnn [.val (.sl vY18), .val (.int .i64)] [(.st vY14)] [.cell 4 43] (a0, a1) = folioref01_Told a0 a1 := by kernel_rfl
noncomputable def folioref01_ToldEnt : Nat × Lf.Entry := (19, ⟨[.val (.sl vY18), .val (.int .i64)], [(.st vY14)], fun z => folioref01_Told z.1 z.2⟩)
theorem folioref01_Told_ok : Lf.EntryOk Proofs.Tryd.prog GG 19 folioref01_ToldEnt.2 :=
  Lf.fn_ok (c := folioref01_ToldCtx) (code := folioref01_ToldCode) (an := folioref01_ToldAnn) (slots := [.cell 4 43]) (fn := Proofs.Tryd.f19) (by kernel_rfl) ⟨TysT_ok, Lf.FnsOk.look (.con folioref01_All_ok .nil), Lf.IpsOk.look .nil, TysTEq_ok, TysTIm_ok, Lf.IvsOk.look .nil, Lf.FxsOk.look .nil⟩ (by kernel_rfl) (by kernel_rfl) (by kernel_rfl) (by kernel_rfl) (by kernel_rfl) (Nat.le_of_ble_eq_true rfl) (by simp [Lf.Ty.top]) (by simp [Lf.Ty.top]) fun z r h => (folioref01_Told_eq z.1 z.2).trans h
noncomputable def fault_TextCtx : Lf.Ctx := ⟨7, TysT, [], [], [], [], [], TysTEq, [], none, TysTIm, [(6, mErrorIv)]⟩
noncomputable def fault_TextCode : Go.Code := (Proofs.Tryd.f11.body).getD .skip
def fault_TextAnn : Lf.Ann := .no
noncomputable def fault_Text (a0 : Lf.Er) : Option (List (UInt8)) :=
 bif (Lf.Er.isNil a0) then some ([] : List (UInt8))
 else ((Go.Fn.mError a0)).bind fun r1 =>
 some r1
theorem fault_Text_eq (a0 : Lf.Er) : Lf.fnE fault_TextCtx fault_TextCode fault_TextAnn [.val .tr] [.str] [.tmp 2] (a0) = fault_Text a0 := by kernel_rfl
noncomputable def fault_TextEnt : Nat × Lf.Entry := (11, ⟨[.val .tr], [.str], fun z => fault_Text z⟩)
theorem fault_Text_ok : Lf.EntryOk Proofs.Tryd.prog GG 11 fault_TextEnt.2 :=
  Lf.fn_ok (c := fault_TextCtx) (code := fault_TextCode) (an := fault_TextAnn) (slots := [.tmp 2]) (fn := Proofs.Tryd.f11) (by kernel_rfl) ⟨TysT_ok, Lf.FnsOk.look .nil, Lf.IpsOk.look .nil, TysTEq_ok, TysTIm_ok, Lf.IvsOk.look (.cons mError_iv .nil), Lf.FxsOk.look .nil⟩ (by kernel_rfl) (by kernel_rfl) (by kernel_rfl) (by kernel_rfl) (by kernel_rfl) (Nat.le_of_ble_eq_true rfl) (by simp [Lf.Ty.top]) (by simp [Lf.Ty.top]) fun z r h => (fault_Text_eq z).trans h
noncomputable def folioref01_TextCtx (self : (List vT16) × (Int) → Option (List (UInt8))) : Lf.Ctx := ⟨123, TysT, [folioref01_NilEnt, (13, ⟨[.val (.sl vY18), .val (.int .i64)], [.str], self⟩), strconv_ItoaEnt, folioref01_kidsEnt], [], [], [], [], TysTEq, [], none, TysTIm, []⟩
noncomputable def folioref01_TextCode : Go.Code := (Proofs.Tryd.f13.body).getD .skip
def folioref01_TextAnn : Lf.Ann := (.seq .no (.seq .no (.seq .no (.seq .no (.seq (.seq .no (.seq .no (.cnd (.seq .no (.seq .no (.seq (.join (.one .nrm ⟨[], [(7, .ref 7 [] 0)], [(8, .str)], [(7, 43, (.st vY14))], []⟩) (.seq (.join (.one .nrm ⟨[8], [(7, .ref 7 [] 0)], [(44, .bool)], [(7, 43, (.st vY14))], []⟩) .no) (.cnd (.draw 17) .no))) (.seq (.join (.one .nrm ⟨[], [], [(8, .str)], [], []⟩) .no) .no)))) (.seq .no (.cnd (.seq (.draw 15) .no) (.seq .no (.cnd (.seq (.draw 12) .no) (.seq .no (.cnd (.seq .no (.seq (.seq .no (.loop ⟨[0, 107, 108], [], [(109, (.int .i64)), (9, .str)], [], []⟩ (.one (.ext 1) ⟨[], [], [(9, .str)], [], []⟩) .no)) .no)) .no))))))))) .no)))))
noncomputable def folioref01_TextB (self : (List vT16) × (Int) → Option (List (UInt8))) (a0 : List vT16) (a1 : Int) : Option (List (UInt8)) :=
 ((Go.Fn.folioref01_Nil a0 a1)).bind fun r1 =>
 bif r1 then some ([] : List (UInt8))
 else ((Lf.idx a0 a1)).bind fun r2 =>
 ((Go.Fn.folioref01_kids a0 a1)).bind fun r3 =>
 bif (decide ((r2.1 : Int) = (0 : Int))) then ((Go.Fn.strconv_Itoa r2.2.1.1)).bind fun r4 =>
 ((Lf.cat ((102 : UInt8) :: ((97 : UInt8) :: ((117 : UInt8) :: ((108 : UInt8) :: ((116 : UInt8) :: ((32 : UInt8) :: ([] : List (UInt8)))))))) r4)).bind fun r5 =>
 ((bif (!(decide ((r2.2.1.2.1 : Int) ≠ (0 : Int)))) then bif (!(decide ((r2.2.1.2.2.1 : Int) ≠ (0 : Int)))) then some ((decide ((r2.2.1.2.2.2.1 : Int) ≠ (0 : Int))), r2.2.1)
     else some (true, r2.2.1)
     else some (true, r2.2.1)).bind fun r6 =>
   bif r6.1 then ((Go.Fn.strconv_Itoa r6.2.2.1)).bind fun r7 =>
   ((Lf.cat ((32 : UInt8) :: ((97 : UInt8) :: ((116 : UInt8) :: ((32 : UInt8) :: ([] : List (UInt8)))))) r7)).bind fun r8 =>
   ((Lf.cat r8 ((58 : UInt8) :: ([] : List (UInt8))))).bind fun r9 =>
   ((Go.Fn.strconv_Itoa r6.2.2.2.1)).bind fun r10 =>
   ((Lf.cat r9 r10)).bind fun r11 =>
   ((Lf.cat r11 ((58 : UInt8) :: ([] : List (UInt8))))).bind fun r12 =>
   ((Go.Fn.strconv_Itoa r6.2.2.2.2.1)).bind fun r13 =>
   ((Lf.cat r12 r13)).bind fun r14 =>
   ((Lf.cat r5 r14)).bind fun r15 =>
   some (r15, r6.2)
   else some (r5, r6.2)).bind fun r16 =>
 (bif (decide ((r16.2.2.2.2.2.1 : List (UInt8)) ≠ ([] : List (UInt8)))) then ((Lf.cat ((32 : UInt8) :: ([] : List (UInt8))) r16.2.2.2.2.2.1)).bind fun r17 =>
   ((Lf.cat r16.1 r17)).bind fun r18 =>
   some r18
   else some r16.1).bind fun r19 =>
 some r19
 else bif (decide ((r2.1 : Int) = (1 : Int))) then ((Lf.cat r2.2.2.1 ((32 : UInt8) :: ([] : List (UInt8))))).bind fun r20 =>
 ((Go.Fn.strconv_Itoa r2.2.2.2.1)).bind fun r21 =>
 ((Lf.cat r20 r21)).bind fun r22 =>
 ((Lf.cat r22 ((58 : UInt8) :: ((32 : UInt8) :: ([] : List (UInt8)))))).bind fun r23 =>
 ((Lf.idx r3 (0 : Int))).bind fun r24 =>
 ((self (a0, r24))).bind fun r25 =>
 ((Lf.cat r23 r25)).bind fun r26 =>
 some r26
 else bif (decide ((r2.1 : Int) = (2 : Int))) then ((Go.Fn.strconv_Itoa r2.2.2.2.1)).bind fun r27 =>
 ((Lf.cat ((105 : UInt8) :: ((110 : UInt8) :: ((32 : UInt8) :: ([] : List (UInt8))))) r27)).bind fun r28 =>
 ((Lf.cat r28 ((58 : UInt8) :: ((32 : UInt8) :: ([] : List (UInt8)))))).bind fun r29 =>
 ((Lf.idx r3 (0 : Int))).bind fun r30 =>
 ((self (a0, r30))).bind fun r31 =>
 ((Lf.cat r29 r31)).bind fun r32 =>
 some r32
 else bif (decide ((r2.1 : Int) = (3 : Int))) then ((Lf.idx r3 (0 : Int))).bind fun r33 =>
 ((self (a0, r33))).bind fun r34 =>
 ((Lf.sub r3 (1 : Int) (((List.length r3) : Nat) : Int))).bind fun r35 =>
 (Lf.loopC (σ := (Int) × (List (UInt8))) (κ := List (UInt8)) (fun z36 =>
     bif (decide (z36.1 < (((List.length r35) : Nat) : Int))) then ((Lf.idx r35 z36.1)).bind fun r37 =>
     ((self (a0, r37))).bind fun r38 =>
     ((Lf.cat ((59 : UInt8) :: ((32 : UInt8) :: ([] : List (UInt8)))) r38)).bind fun r39 =>
     ((Lf.cat z36.2 r39)).bind fun r40 =>
     some (.inl ((IntKind.wrap .i64 (z36.1 + (1 : Int))), r40))
     else some (.inr z36.2)) ((0 : Int), r34) : Option (List (UInt8))).bind fun r41 =>
 some r41
 else some r2.2.2.1
theorem folioref01_Text_eq (self : (List vT16) × (Int) → Option (List (UInt8))) (a0 : List vT16) (a1 : Int) : Lf.fnE (folioref01_TextCtx self) folioref01_TextCode folioref01_TextAnn [.val (.sl vY18), .val (.int .i64)] [.str] [.tmp 4] (a0, a1) = folioref01_TextB self a0 a1 := by kernel_rfl
noncomputable def folioref01_TextN : Nat → (List vT16) × (Int) → Option (List (UInt8))
 | 0 => fun _ => none
 | n + 1 => fun z => folioref01_TextB (folioref01_TextN n) z.1 z.2
noncomputable def folioref01_Text (a0 : List vT16) (a1 : Int) : Option (List (UInt8)) := Lf.supC fun n => folioref01_TextN n (a0, a1)
noncomputable def folioref01_TextEnt : Nat × Lf.Entry := (13, ⟨[.val (.sl vY18), .val (.int .i64)], [.str], fun z => folioref01_Text z.1 z.2⟩)
theorem folioref01_Text_ok : Lf.EntryOk Proofs.Tryd.prog GG 13 folioref01_TextEnt.2 :=
  Lf.rec_ok (ps := [.val (.sl vY18), .val (.int .i64)]) (rs := [.str]) (N := folioref01_TextN) Proofs.Tryd.f13 (by kernel_rfl) (by kernel_rfl) (by kernel_rfl) (by simp [Lf.Ty.top]) (fun _ => rfl) fun n ih => Lf.fn_ok (c := folioref01_TextCtx (folioref01_TextN n)) (code := folioref01_TextCode) (an := folioref01_TextAnn) (slots := [.tmp 4]) (fn := Proofs.Tryd.f13) (by kernel_rfl) ⟨TysT_ok, Lf.FnsOk.look (.con folioref01_Nil_ok (.cons ih (.con strconv_Itoa_ok (.con folioref01_kids_ok .nil)))), Lf.IpsOk.look .nil, TysTEq_ok, TysTIm_ok, Lf.IvsOk.look .nil, Lf.FxsOk.look .nil⟩ (by kernel_rfl) (by kernel_rfl) (by kernel_rfl) (by kernel_rfl) (by kernel_rfl) (Nat.le_of_ble_eq_true rfl) (by simp [Lf.Ty.top]) (by simp [Lf.Ty.top]) fun z r h => (folioref01_Text_eq (folioref01_TextN n) z.1 z.2).trans h
noncomputable def folioref01_IsCtx : Lf.Ctx := ⟨27, TysT, [folioref01_NilEnt, folioref01_faultsEnt], [], [], [], [], TysTEq, [], none, TysTIm, []⟩
noncomputable def folioref01_IsCode : Go.Code := (Proofs.Tryd.f28.body).getD .skip
def folioref01_IsAnn : Lf.Ann := (.seq .no (.seq .no (.seq (.seq .no (.loop ⟨[2, 16, 17], [], [(18, (.int .i64))], [], []⟩ (.more (.ext 0) ⟨[], [], [], [], []⟩ (.one .ret ⟨[], [], [(6, .bool)], [], []⟩)) .no)) .no)))
noncomputable def folioref01_Is (a0 : List vT16) (a1 : Int) (a2 : Int) : Option (Bool) :=
 ((Go.Fn.folioref01_Nil a0 a1)).bind fun r1 =>
 bif r1 then some (decide ((a2 : Int) = (0 : Int)))
 else ((Go.Fn.folioref01_faults a0 a1 ([] : List ((List (UInt8)) × ((Int) × (Unit)))) (0 : Int) false)).bind fun r2 =>
 (Lf.loopC (σ := Int) (κ := (Unit) ⊕ (Bool)) (fun z3 =>
     bif (decide (z3 < (((List.length r2) : Nat) : Int))) then ((Lf.idx r2 z3)).bind fun r4 =>
     bif (decide ((r4.1 : Int) = a2)) then some (.inr (.inr true))
     else some (.inl (IntKind.wrap .i64 (z3 + (1 : Int))))
     else some (.inr (.inl ()))) (0 : Int) : Option ((Unit) ⊕ (Bool))).bind fun r5 =>
 Lf.onSum r5 (fun _ =>
 some false) (fun b7 =>
 some b7)
theorem folioref01_Is_eq (a0 : List vT16) (a1 : Int) (a2 : Int) : Lf.fnE folioref01_IsCtx folioref01_IsCode folioref01_IsAnn [.val (.sl vY18), .val (.int .i64), .val (.int .i64)] [.bool] [.tmp 6] (a0, a1, a2) = folioref01_Is a0 a1 a2 := by kernel_rfl
noncomputable def folioref01_IsEnt : Nat × Lf.Entry := (28, ⟨[.val (.sl vY18), .val (.int .i64), .val (.int .i64)], [.bool], fun z => folioref01_Is z.1 z.2.1 z.2.2⟩)
theorem folioref01_Is_ok : Lf.EntryOk Proofs.Tryd.prog GG 28 folioref01_IsEnt.2 :=
  Lf.fn_ok (c := folioref01_IsCtx) (code := folioref01_IsCode) (an := folioref01_IsAnn) (slots := [.tmp 6]) (fn := Proofs.Tryd.f28) (by kernel_rfl) ⟨TysT_ok, Lf.FnsOk.look (.con folioref01_Nil_ok (.con folioref01_faults_ok .nil)), Lf.IpsOk.look .nil, TysTEq_ok, TysTIm_ok, Lf.IvsOk.look .nil, Lf.FxsOk.look .nil⟩ (by kernel_rfl) (by kernel_rfl) (by kernel_rfl) (by kernel_rfl) (by kernel_rfl) (Nat.le_of_ble_eq_true rfl) (by simp [Lf.Ty.top]) (by simp [Lf.Ty.top]) fun z r h => (folioref01_Is_eq z.1 z.2.1 z.2.2).trans h
noncomputable def foliolaw01_FaultTellsCtx : Lf.Ctx := ⟨89, TysT, [foliolaw01_awakeEnt, foliolaw01_fitsEnt, foliolaw01_madeEnt, fault_TextEnt, folioref01_NilEnt, folioref01_TextEnt, folioref01_ToldEnt, folioref01_SameEnt, folioref01_SameAllEnt, fault_AllEnt, folioref01_AllEnt, fault_ToldEnt, folioref01_IsEnt, fault_IsEnt, errors_IsEnt, fault_CodeEnt], [], [], [], [], TysTEq, [], none, TysTIm, []⟩
noncomputable def foliolaw01_FaultTellsCode : Go.Code := (Proofs.Tryd.f5.body).getD .skip
def foliolaw01_FaultTellsAnn : Lf.Ann := (.seq .no (.seq .no (.seq (.seq (.join (.one .nrm ⟨[0, 1], [], [(19, .bool)], [], []⟩) .no) .no) (.seq (.seq .no (.loop ⟨[0, 1, 22], [], [(23, (.int .i64)), (21, (.rw 28 .tr))], [], []⟩ (.more (.ext 0) ⟨[], [], [], [], []⟩ (.one .ret ⟨[], [], [(4, .bool)], [], []⟩)) (.seq .no (.seq .no (.seq (.seq .no (.seq (.seq (.join (.one .nrm ⟨[6, 5, 0, 1, 22, 23], [], [(59, .bool), (21, (.rw 28 .tr))], [], []⟩) (.soup 29)) .no) (.seq .no (.loop ⟨[6, 5, 0, 60, 1, 22, 23, 61], [], [(62, (.int .i64)), (21, (.rw 28 .tr))], [], []⟩ (.more (.ext 2) ⟨[0, 1, 22, 23], [], [(21, (.rw 28 .tr))], [], []⟩ (.one .ret ⟨[], [], [(4, .bool)], [], []⟩)) (.seq .no (.seq .no (.seq (.seq .no (.seq .no (.seq (.join (.one .nrm ⟨[6, 5, 0, 60, 1, 22, 23, 61, 62], [], [(86, .bool), (21, (.rw 28 .tr))], [], []⟩) .no) .no))) .no))))))) .no))))) .no))))
noncomputable def foliolaw01_FaultTells (a0 : List vT16) (a1 : List (Int)) : Option (Bool) :=
 (Go.Fn.foliolaw01_awake).bind fun r1 =>
 bif (!r1) then some false
 else (((Go.Fn.foliolaw01_fits a0)).bind fun r2 =>
   bif (!(!r2)) then some (decide ((50 : Int) < (((List.length a1) : Nat) : Int)))
   else some true).bind fun r3 =>
 bif r3 then some true
 else ((Go.Fn.foliolaw01_made a0)).bind fun r4 =>
 (Lf.loopC (σ := (Int) × (List (Lf.Er))) (κ := (Unit) ⊕ (Bool)) (fun z5 =>
     bif (decide (z5.1 < (((List.length r4) : Nat) : Int))) then ((Lf.idx z5.2 z5.1)).bind fun r6 =>
     (((Go.Fn.folioref01_Nil a0 z5.1)).bind fun r7 =>
       bif (!(decide (((Lf.Er.isNil r6) : Bool) ≠ r7))) then ((Go.Fn.fault_All r6)).bind fun r8 =>
       ((Go.Fn.folioref01_All a0 z5.1)).bind fun r9 =>
       ((Go.Fn.folioref01_SameAll r8 r9)).bind fun r10 =>
       bif (!(!r10)) then ((Go.Fn.fault_Told r6)).bind fun r11 =>
       ((Go.Fn.folioref01_Told a0 z5.1)).bind fun r12 =>
       ((Go.Fn.folioref01_Same r11 r12)).bind fun r13 =>
       bif (!(!r13)) then ((Go.Fn.fault_Text r6)).bind fun r14 =>
       ((Go.Fn.folioref01_Text a0 z5.1)).bind fun r15 =>
       some ((decide ((r14 : List (UInt8)) ≠ r15)), z5.2)
       else some (true, z5.2)
       else some (true, z5.2)
       else some (true, z5.2)).bind fun r16 =>
     bif r16.1 then some (.inr (.inr false))
     else (Lf.loopC (σ := (Int) × (List (Lf.Er))) (κ := (List (Lf.Er)) ⊕ (Bool)) (fun z17 =>
         bif (decide (z17.1 < (((List.length a1) : Nat) : Int))) then ((Lf.idx a1 z17.1)).bind fun r18 =>
         ((Go.Fn.folioref01_Is a0 z5.1 r18)).bind fun r19 =>
         (((Go.Fn.fault_Is r6 r18)).bind fun r20 =>
           bif (!(decide ((r20 : Bool) ≠ r19))) then bif (decide ((r18 : Int) ≠ (0 : Int))) then (((Go.Fn.fault_New r18 (0 : Int) (0 : Int) (0 : Int) ([] : List (UInt8)))).bind fun r21 =>
             some r21).bind fun r22 =>
           ((Go.Fn.errors_Is (r6, r22))).bind fun r23 =>
           some ((decide ((r23 : Bool) ≠ r19)), z17.2)
           else some (false, z17.2)
           else some (true, z17.2)).bind fun r24 =>
         bif r24.1 then some (.inr (.inr false))
         else some (.inl ((IntKind.wrap .i64 (z17.1 + (1 : Int))), r24.2))
         else some (.inr (.inl z17.2))) ((0 : Int), r16.2) : Option ((List (Lf.Er)) ⊕ (Bool))).bind fun r25 =>
     Lf.onSum r25 (fun a26 =>
     some (.inl ((IntKind.wrap .i64 (z5.1 + (1 : Int))), a26))) (fun b27 =>
     some (.inr (.inr b27)))
     else some (.inr (.inl ()))) ((0 : Int), r4) : Option ((Unit) ⊕ (Bool))).bind fun r28 =>
 Lf.onSum r28 (fun _ =>
 some true) (fun b30 =>
 some b30)
theorem foliolaw01_FaultTells_eq (a0 : List vT16) (a1 : List (Int)) : Lf.fnE foliolaw01_FaultTellsCtx foliolaw01_FaultTellsCode foliolaw01_FaultTellsAnn [.val (.sl vY18), .val (.sl (.int .i64))] [.bool] [.tmp 4] (a0, a1) = foliolaw01_FaultTells a0 a1 := by kernel_rfl
noncomputable def foliolaw01_FaultTellsEnt : Nat × Lf.Entry := (5, ⟨[.val (.sl vY18), .val (.sl (.int .i64))], [.bool], fun z => foliolaw01_FaultTells z.1 z.2⟩)
theorem foliolaw01_FaultTells_ok : Lf.EntryOk Proofs.Tryd.prog GG 5 foliolaw01_FaultTellsEnt.2 :=
  Lf.fn_ok (c := foliolaw01_FaultTellsCtx) (code := foliolaw01_FaultTellsCode) (an := foliolaw01_FaultTellsAnn) (slots := [.tmp 4]) (fn := Proofs.Tryd.f5) (by kernel_rfl) ⟨TysT_ok, Lf.FnsOk.look (.con foliolaw01_awake_ok (.con foliolaw01_fits_ok (.con foliolaw01_made_ok (.con fault_Text_ok (.con folioref01_Nil_ok (.con folioref01_Text_ok (.con folioref01_Told_ok (.con folioref01_Same_ok (.con folioref01_SameAll_ok (.con fault_All_ok (.con folioref01_All_ok (.con fault_Told_ok (.con folioref01_Is_ok (.con fault_Is_ok (.con errors_Is_ok (.con fault_Code_ok .nil)))))))))))))))), Lf.IpsOk.look .nil, TysTEq_ok, TysTIm_ok, Lf.IvsOk.look .nil, Lf.FxsOk.look .nil⟩ (by kernel_rfl) (by kernel_rfl) (by kernel_rfl) (by kernel_rfl) (by kernel_rfl) (Nat.le_of_ble_eq_true rfl) (by simp [Lf.Ty.top]) (by simp [Lf.Ty.top]) fun z r h => (foliolaw01_FaultTells_eq z.1 z.2).trans h
end Go.Fn
/- Chapter 1, plainly: which lists may be gone through. -/
namespace Go.Fn
open Go Go.Lf Go.Eng Go.Proofs
abbrev NodeD : Type := Int × ((Int × (Int × (Int × (Int × (List UInt8 × (List (List UInt8 × (Int × Unit)) × Unit)))))) × (List UInt8 × (Int × (List Int × Unit))))
abbrev nCode (n : NodeD) : Int := n.2.1.1
abbrev nSrc (n : NodeD) : Int := n.2.1.2.1
abbrev nLine (n : NodeD) : Int := n.2.1.2.2.1
abbrev nCol (n : NodeD) : Int := n.2.1.2.2.2.1
abbrev nWord (n : NodeD) : List UInt8 := n.2.1.2.2.2.2.1
abbrev nLayer (n : NodeD) : List UInt8 := n.2.2.1
abbrev nWhat (n : NodeD) : Int := n.2.2.2.1
abbrev nKids (n : NodeD) : List Int := n.2.2.2.2.1
structure NWf (L : List NodeD) : Prop where
 len : L.length ≤ 1099511627776
 kids : ∀ n ∈ L, (nKids n).length ≤ 17592186044416
 word : ∀ n ∈ L, (nWord n).length ≤ 140737488355328
 layer : ∀ n ∈ L, (nLayer n).length ≤ 140737488355328
def sumK (f : Nat → Int) (ks : List Int) : Int := (ks.map fun k => f k.toNat + 2).sum
def sumW (f : Nat → Int) (ks : List Int) : Int := (ks.map fun k => f k.toNat).sum
structure Fit1 (L : List NodeD) (tx : Nat → Int) (i : Nat) : Prop where
 kid : ∀ n, L[i]? = some n → ∀ k ∈ nKids n, 0 ≤ k ∧ k < i
 num : ∀ n, L[i]? = some n → (nKids n).length ≤ 20000
 text : ∀ n, L[i]? = some n → tx i = 60 + (nWord n).length + (nLayer n).length + sumK tx (nKids n)
 le : 0 ≤ tx i ∧ tx i ≤ 1000000
theorem chk_nat {n i : Nat} (h : i < n) : chk n (i : Int) = some i := by unfold chk; rw [if_pos (by omega)]; rfl
theorem chk_int {n : Nat} {i : Int} (h0 : 0 ≤ i) (h : i < n) : chk n i = some i.toNat := by unfold chk; rw [if_pos ⟨h0, h⟩]
theorem nth_D {l : List Int} {n : Nat} (h : n < l.length) : nth l n = some (l.getD n 0) := by unfold nth; rw [List.getElem?_eq_getElem h, List.getD_eq_getElem?_getD, List.getElem?_eq_getElem h]; rfl
theorem getD_set_self {l : List Int} {n : Nat} {x : Int} (h : n < l.length) : (l.set n x).getD n 0 = x := by simp [List.getD_eq_getElem?_getD, h]
theorem getD_set_ne' {l : List Int} {n m : Nat} {x : Int} (h : n ≠ m) : (l.set n x).getD m 0 = l.getD m 0 := by simp [List.getD_eq_getElem?_getD, h]
theorem sumK_snoc (f : Nat → Int) (l : List Int) (k : Int) : sumK f (l ++ [k]) = sumK f l + (f k.toNat + 2) := by simp [sumK]
theorem sumW_snoc (f : Nat → Int) (l : List Int) (k : Int) : sumW f (l ++ [k]) = sumW f l + f k.toNat := by simp [sumW]
theorem sumK_congr {f g : Nat → Int} {l : List Int} (h : ∀ k ∈ l, f k.toNat = g k.toNat) : sumK f l = sumK g l := by
 unfold sumK
 rw [List.map_congr_left fun k hk => by rw [h k hk]]
structure InI (L : List NodeD) (i : Nat) (n : NodeD) (T0 W0 : List Int) (j : Nat) (s : List Int × List Int) : Prop where
 lt : s.1.length = L.length
 lw : s.2.length = L.length
 kid : ∀ k ∈ (nKids n).take j, 0 ≤ k ∧ k < i
 ot : ∀ m, m ≠ i → s.1.getD m 0 = T0.getD m 0
 ow : ∀ m, m ≠ i → s.2.getD m 0 = W0.getD m 0
 w : s.2.getD i 0 = 1 + sumW (fun m => W0.getD m 0) ((nKids n).take j)
 wb : 1 + (j : Int) ≤ s.2.getD i 0 ∧ s.2.getD i 0 ≤ 1 + 20000 * j
 t : j ≤ 20000 → s.1.getD i 0 = 60 + (nWord n).length + (nLayer n).length + sumK (fun m => T0.getD m 0) ((nKids n).take j) ∧ s.1.getD i 0 ≤ 281474976710716 + 1000002 * j ∧ 0 ≤ s.1.getD i 0
structure OutI (L : List NodeD) (i : Nat) (s : List Int × List Int) : Prop where
 lt : s.1.length = L.length
 lw : s.2.length = L.length
 fit : ∀ j, j < i → Fit1 L (fun m => s.1.getD m 0) j
 w : ∀ j, j < i → 1 ≤ s.2.getD j 0 ∧ s.2.getD j 0 ≤ 20000
set_option maxHeartbeats 1000000 in
theorem fits_ok (L : List NodeD) (hw : NWf L) : OkP False (foliolaw01_fits L) fun b => b = true → L.length ≤ 200 ∧ ∃ tx : Nat → Int, ∀ i, i < L.length → Fit1 L tx i := by
 have hlen := hw.len
 unfold foliolaw01_fits
 have hmk : made (8 : Nat) (0 : Int) ((L.length : Nat) : Int) ((L.length : Nat) : Int) = some (List.replicate L.length (0 : Int)) := by
  unfold made
  rw [if_pos ⟨by omega, rfl, by omega⟩]
  rfl
 refine OkP.bind (Q := fun r => r = List.replicate L.length (0 : Int)) (OkP.of hmk rfl) fun r1 hr1 => ?_
 refine OkP.bind (Q := fun r => r = List.replicate L.length (0 : Int)) (OkP.of hmk rfl) fun r2 hr2 => ?_
 subst hr1 hr2
 refine OkP.bind (Q := fun r => match r with | .inl _ => ∃ tx : Nat → Int, ∀ i, i < L.length → Fit1 L tx i | .inr b => b = false) ?_ fun r hr => ?_
 ·refine OkP.loop (fun m z => ∃ i : Nat, i + m = L.length ∧ z.2.2 = (i : Int) ∧ OutI L i (z.1, z.2.1)) (fun m z hz => ?_) L.length _ ⟨0, by omega, rfl, ⟨List.length_replicate, List.length_replicate, fun j h => absurd h (by omega), fun j h => absurd h (by omega)⟩⟩
  obtain ⟨i, hi, hz1, hO⟩ := hz
  obtain ⟨T0, W0, z3⟩ := z
  simp only at hz1 hO
  subst hz1
  by_cases hlt : i < L.length
  ·obtain ⟨n, hn⟩ : ∃ n, L[i]? = some n := ⟨L[i], List.getElem?_eq_getElem hlt⟩
   have hnm := List.mem_of_getElem? hn
   have hkl := hw.kids n hnm
   have hwl := hw.word n hnm
   have hll := hw.layer n hnm
   have hTl : T0.length = L.length := hO.lt
   have hWl : W0.length = L.length := hO.lw
   have hb : decide ((i : Int) < ((List.length L : Nat) : Int)) = true := by simp; omega
   simp only [hb, cond_true, idx_nat, hn, Option.bind_some]
   rw [chk_nat (by omega : i < W0.length)]
   simp only [Option.bind_some]
   rw [nth_D (by omega : i < W0.length)]
   simp only [Option.bind_some]
   rw [chk_nat (by omega : i < T0.length)]
   simp only [Option.bind_some]
   rw [nth_D (by omega : i < T0.length)]
   simp only [Option.bind_some]
   refine OkP.bind (Q := fun r => match r with | .inl s => InI L i n T0 W0 (nKids n).length s | .inr b => b = false) ?_ fun r hr => ?_
   ·refine OkP.range (nKids n) (InI L i n T0 W0) (fun j k s hk hI => ?_) (fun s hI => ?_) ?_
    ·obtain ⟨T, W⟩ := s
     have hjl := (List.getElem?_eq_some_iff.1 hk).1
     have hb : decide ((j : Int) < ((List.length (nKids n) : Nat) : Int)) = true := by simp; omega
     have htk : (nKids n).take (j + 1) = (nKids n).take j ++ [k] := by rw [List.take_add_one, hk]; rfl
     simp only [hb, cond_true, idx_nat, hk, Option.bind_some]
     by_cases hk0 : k < 0
     ·simp only [hk0, decide_true, Bool.not_true, cond_false, cond_true, Option.bind_some]
      exact OkP.of rfl rfl
     by_cases hki : (i : Int) ≤ k
     ·simp only [hk0, hki, decide_false, decide_true, Bool.not_false, cond_true, Option.bind_some]
      exact OkP.of rfl rfl
     ·have hlT : T.length = L.length := hI.lt
      have hlW : W.length = L.length := hI.lw
      simp only [hk0, hki, decide_false, Bool.not_false, cond_true, cond_false, Option.bind_some]
      simp only [chk_nat (by omega : i < W.length), chk_nat (by omega : i < T.length), chk_int (by omega : 0 ≤ k) (by omega : k < (W.length : Nat)), chk_int (by omega : 0 ≤ k) (by omega : k < (T.length : Nat)), nth_D (by omega : i < W.length), nth_D (by omega : i < T.length), nth_D (by omega : k.toNat < W.length), nth_D (by omega : k.toNat < T.length), Option.bind_some]
      have hne : k.toNat ≠ i := by omega
      have hwk := hO.w k.toNat (by omega)
      have htk1 := (hO.fit k.toNat (by omega)).le
      simp only at hwk htk1
      have hTk : T.getD k.toNat 0 = T0.getD k.toNat 0 := hI.ot _ hne
      have hWk : W.getD k.toNat 0 = W0.getD k.toNat 0 := hI.ow _ hne
      obtain ⟨wb1, wb2⟩ := hI.wb
      have hw0 := hI.w
      simp only at wb1 wb2 hw0
      have hnew : IntKind.wrap .i64 (W.getD i 0 + W.getD k.toNat 0) = W.getD i 0 + W.getD k.toNat 0 := wrap64 (by omega) (by omega)
      refine OkP.of rfl ⟨wrapS (by omega), ⟨by simp [hlT], by simp [hlW], fun k' hk' => ?_, fun m hm => ?_, fun m hm => ?_, ?_, ?_, fun hj => ?_⟩⟩
      ·rw [htk] at hk'
       rcases List.mem_append.1 hk' with h | h
       ·exact hI.kid k' h
       ·have : k' = k := by simpa using h
        subst this
        omega
      ·exact (getD_set_ne' (Ne.symm hm)).trans (hI.ot m hm)
      ·exact (getD_set_ne' (Ne.symm hm)).trans (hI.ow m hm)
      ·show (W.set i _).getD i 0 = _
       rw [getD_set_self (by omega), hnew, htk, sumW_snoc, hw0, hWk]
       omega
      ·show 1 + ((j + 1 : Nat) : Int) ≤ (W.set i _).getD i 0 ∧ (W.set i _).getD i 0 ≤ _
       rw [getD_set_self (by omega), hnew, hWk]
       omega
      ·obtain ⟨t1, t2, t3⟩ := hI.t (by omega)
       simp only at t1 t2 t3
       have e1 : IntKind.wrap .i64 (T.getD k.toNat 0 + (2 : Int)) = T.getD k.toNat 0 + 2 := wrap64 (by omega) (by omega)
       have e2 : IntKind.wrap .i64 (T.getD i 0 + (T.getD k.toNat 0 + 2)) = T.getD i 0 + (T.getD k.toNat 0 + 2) := wrap64 (by omega) (by omega)
       show (T.set i _).getD i 0 = _ ∧ (T.set i _).getD i 0 ≤ _ ∧ 0 ≤ (T.set i _).getD i 0
       rw [getD_set_self (by omega), e1, e2, htk, sumK_snoc, hTk]
       refine ⟨?_, ?_, ?_⟩
       ·rw [t1]; omega
       ·omega
       ·omega
    ·simp only [Int.lt_irrefl, decide_false, cond_false]
     exact OkP.of rfl hI
    ·have e1 : IntKind.wrap .i64 ((60 : Int) + (((List.length (nWord n)) : Nat) : Int)) = 60 + ((nWord n).length : Int) := wrap64 (by omega) (by omega)
     have e2 : IntKind.wrap .i64 (60 + ((nWord n).length : Int) + (((List.length (nLayer n)) : Nat) : Int)) = 60 + ((nWord n).length : Int) + ((nLayer n).length : Int) := wrap64 (by omega) (by omega)
     refine ⟨by simp [hTl], by simp [hWl], by simp, fun m hm => getD_set_ne' (Ne.symm hm), fun m hm => getD_set_ne' (Ne.symm hm), ?_, ?_, fun _ => ?_⟩
     ·show (W0.set i _).getD i 0 = _
      rw [getD_set_self (by omega)]
      simp [sumW]
     ·show 1 + ((0 : Nat) : Int) ≤ (W0.set i _).getD i 0 ∧ (W0.set i _).getD i 0 ≤ _
      rw [getD_set_self (by omega)]
      omega
     ·show (T0.set i _).getD i 0 = _ ∧ (T0.set i _).getD i 0 ≤ _ ∧ 0 ≤ (T0.set i _).getD i 0
      rw [getD_set_self (by omega)]
      have e3 : IntKind.wrap .i64 (IntKind.wrap .i64 ((60 : Int) + (((List.length (nWord n)) : Nat) : Int)) + (((List.length (nLayer n)) : Nat) : Int)) = 60 + ((nWord n).length : Int) + ((nLayer n).length : Int) := by rw [e1, e2]
      rw [e3]
      refine ⟨by simp [sumK], by omega, by omega⟩
   ·cases r with
    | inr b =>
     have hr : b = false := hr
     subst hr
     exact OkP.of rfl rfl
    | inl s =>
     obtain ⟨T, W⟩ := s
     have hI : InI L i n T0 W0 (nKids n).length (T, W) := hr
     have hlT : T.length = L.length := hI.lt
     have hlW : W.length = L.length := hI.lw
     simp only [onSum, chk_nat (by omega : i < W.length), chk_nat (by omega : i < T.length), nth_D (by omega : i < W.length), nth_D (by omega : i < T.length), Option.bind_some]
     by_cases h1 : (20000 : Int) < W.getD i 0
     ·simp only [h1, decide_true, Bool.not_true, cond_false, cond_true, Option.bind_some]
      exact OkP.of rfl rfl
     by_cases h2 : (1000000 : Int) < T.getD i 0
     ·simp only [h1, h2, decide_false, decide_true, Bool.not_false, cond_true, Option.bind_some]
      exact OkP.of rfl rfl
     ·simp only [h1, h2, decide_false, Bool.not_false, cond_true, cond_false, Option.bind_some]
      obtain ⟨wb1, wb2⟩ := hI.wb
      simp only at wb1 wb2
      have hkn : (nKids n).length ≤ 20000 := by omega
      obtain ⟨t1, _, t3⟩ := hI.t hkn
      have hkid := hI.kid
      rw [List.take_length] at t1 hkid
      simp only at t1 t3
      refine OkP.of rfl ⟨m - 1, by omega, i + 1, by omega, wrapS (by omega), ⟨hlT, hlW, fun j hj => ?_, fun j hj => ?_⟩⟩
      ·by_cases hji : j = i
       ·subst hji
        refine ⟨fun n' hn' => ?_, fun n' hn' => ?_, fun n' hn' => ?_, t3, by show T.getD j 0 ≤ _; omega⟩
        ·rw [hn] at hn'; injection hn' with e; subst e
         exact hkid
        ·rw [hn] at hn'; injection hn' with e; subst e
         exact hkn
        ·rw [hn] at hn'; injection hn' with e; subst e
         show T.getD j 0 = _
         rw [t1]
         congr 1
         exact sumK_congr fun k hk => (hI.ot _ (by have := hkid k hk; omega)).symm
       ·have hF := hO.fit j (by omega)
        have hjT : T.getD j 0 = T0.getD j 0 := hI.ot j hji
        refine ⟨hF.kid, hF.num, fun n' hn' => ?_, ?_⟩
        ·show T.getD j 0 = _
         rw [hjT]
         refine (hF.text n' hn').trans ?_
         congr 1
         exact sumK_congr fun k hk => (hI.ot _ (by have := hF.kid n' hn' k hk; omega)).symm
        ·show 0 ≤ T.getD j 0 ∧ T.getD j 0 ≤ _
         rw [hjT]
         exact hF.le
      ·by_cases hji : j = i
       ·subst hji
        exact ⟨by show 1 ≤ W.getD j 0; omega, by show W.getD j 0 ≤ _; omega⟩
       ·show 1 ≤ W.getD j 0 ∧ W.getD j 0 ≤ _
        have : W.getD j 0 = W0.getD j 0 := hI.ow j hji
        rw [this]
        exact hO.w j (by omega)
  ·have hb : decide ((i : Int) < ((List.length L : Nat) : Int)) = false := by simp; omega
   simp only [hb, cond_false]
   exact OkP.of rfl ⟨_, fun j hj => hO.fit j (by omega)⟩
 ·cases r with
  | inl u =>
   refine OkP.of rfl fun h => ?_
   have h := of_decide_eq_true h
   exact ⟨by omega, hr⟩
  | inr b =>
   have hr : b = false := hr
   subst hr
   exact OkP.of rfl fun h => by cases h
end Go.Fn
/- Chapter 1, plainly: the errors of a list. -/
namespace Go.Fn
open Go Go.Lf Go.Eng Go.Proofs
def firstV : List Vw → Vw
 | [] => .nil
 | v :: _ => v
def joinV (ks : List Vw) : Vw := match ks.filter fun v => !v.isNil with
 | [] => .nil
 | l => .join l
def mkV (n : NodeD) (ks : List Vw) : Vw :=
 if n.1 = 0 then (if nCode n = 0 then .nil else .new (nCode n) (nSrc n) (nLine n) (nCol n) (nWord n))
 else if n.1 = 1 then (bif (firstV ks).isNil then .nil else .und (nLayer n) (nWhat n) (firstV ks))
 else if n.1 = 2 then (bif (firstV ks).isNil then .nil else .inn (nWhat n) (firstV ks))
 else if n.1 = 3 then joinV ks
 else if n.1 = 4 then .plain (nLayer n)
 else if n.1 = 5 then .wrap (nLayer n) (firstV ks)
 else if n.1 = 6 then .many (nLayer n) ks
 else .nil
def kidV (vs : List Vw) (n : NodeD) : List Vw := (nKids n).map fun k => vs.getD k.toNat .nil
def Vs (L : List NodeD) : List Vw := L.foldl (fun vs n => vs ++ [mkV n (kidV vs n)]) []
theorem Vs_snoc (L : List NodeD) (n : NodeD) : Vs (L ++ [n]) = Vs L ++ [mkV n (kidV (Vs L) n)] := by unfold Vs; rw [List.foldl_append]; rfl
theorem Vs_take (L : List NodeD) {i : Nat} {n : NodeD} (h : L[i]? = some n) : Vs (L.take (i + 1)) = Vs (L.take i) ++ [mkV n (kidV (Vs (L.take i)) n)] := by
 rw [List.take_add_one, h]
 exact Vs_snoc _ _
theorem Vs_len (L : List NodeD) : ∀ i, i ≤ L.length → (Vs (L.take i)).length = i
 | 0, _ => by simp [Vs]
 | i + 1, h => by
  rw [Vs_take L (List.getElem?_eq_getElem (by omega : i < L.length)), List.length_append, Vs_len L i (by omega)]
  rfl
theorem Vs_pre (L : List NodeD) {i : Nat} : ∀ m, i + m ≤ L.length → (Vs (L.take (i + m))).take i = Vs (L.take i)
 | 0, h => by
  have := Vs_len L i h
  rw [Nat.add_zero]
  exact List.take_of_length_le (by omega)
 | m + 1, h => by
  rw [show i + (m + 1) = i + m + 1 by omega, Vs_take L (List.getElem?_eq_getElem (by omega : i + m < L.length)), List.take_append_of_le_length (by rw [Vs_len L _ (by omega)]; omega)]
  exact Vs_pre L m (by omega)
theorem Vs_full (L : List NodeD) : Vs (L.take L.length) = Vs L := by rw [List.take_length]
theorem Vs_length (L : List NodeD) : (Vs L).length = L.length := by have := Vs_len L L.length (Nat.le_refl _); rwa [Vs_full] at this
theorem Vs_getD (L : List NodeD) {i j : Nat} (hi : i ≤ L.length) (hj : j < i) : (Vs (L.take i)).getD j .nil = (Vs L).getD j .nil := by
 have h := Vs_pre L (i := i) (L.length - i) (by omega)
 rw [show i + (L.length - i) = L.length by omega, Vs_full] at h
 rw [← h]
 simp [List.getD_eq_getElem?_getD, hj]
theorem Vs_get (L : List NodeD) {i : Nat} {n : NodeD} (h : L[i]? = some n) (hk : ∀ k ∈ nKids n, 0 ≤ k ∧ k < i) : (Vs L)[i]? = some (mkV n (kidV (Vs L) n)) := by
 have hlt := (List.getElem?_eq_some_iff.1 h).1
 have e1 : kidV (Vs (L.take i)) n = kidV (Vs L) n := List.map_congr_left fun k hk' => Vs_getD L (by omega) (by have := hk k hk'; omega)
 have e2 := Vs_take L h
 have e3 := Vs_pre L (i := i + 1) (L.length - (i + 1)) (by omega)
 rw [show i + 1 + (L.length - (i + 1)) = L.length by omega, Vs_full, e2] at e3
 have e4 := congrArg (fun l => l[i]?) e3
 simp only [List.getElem?_take, Nat.lt_succ_self, if_true] at e4
 rw [e4, List.getElem?_append_right (by rw [Vs_len L i (by omega)]; omega), Vs_len L i (by omega), e1]
 simp
theorem enc_first (ks : List Vw) : foliolaw01_first (encs ks) = some (enc (firstV ks)) := by
 cases ks with
 | nil => rfl
 | cons v r =>
  unfold foliolaw01_first
  have : decide ((((List.length (encs (v :: r)) : Nat) : Int) : Int) = (0 : Int)) = false := decide_eq_false (by simp [encs]; omega)
  simp only [this, cond_false]
  rfl
theorem under_ok (v : Vw) (la : List UInt8) (wh : Int) : fault_Under (enc v) la wh = some (enc (bif v.isNil then .nil else .und la wh v)) := by
 unfold fault_Under
 rw [enc_nil]
 cases v.isNil <;> rfl
theorem in_ok (v : Vw) (s : Int) : fault_In (enc v) s = some (enc (bif v.isNil then .nil else .inn s v)) := by
 unfold fault_In
 rw [enc_nil]
 cases v.isNil <;> rfl
theorem new_ok (c s l o : Int) (w : List UInt8) : fault_New c s l o w = some (enc (if c = 0 then .nil else .new c s l o w)) := by
 unfold fault_New
 by_cases h : c = 0
 ·simp only [h, decide_true, cond_true, if_true]; rfl
 ·simp only [h, decide_false, cond_false, if_false]; rfl
theorem encs_app (l m : List Vw) : encs (l ++ m) = encs l ++ encs m := by simp [encs_map]
theorem encs_len (l : List Vw) : (encs l).length = l.length := by simp [encs_map]
theorem encs_get (l : List Vw) (i : Nat) : (encs l)[i]? = l[i]?.map enc := by rw [encs_map, List.getElem?_map]
theorem join_ok (ks : List Vw) (hl : ks.length ≤ 1048576) : fault_Join (encs ks) = some (enc (joinV ks)) := by
 unfold fault_Join
 refine OkP.eq ?_
 refine OkP.bind (Q := fun r => r = encs (ks.filter fun v => !v.isNil)) ?_ fun r hr => ?_
 ·refine OkP.range (encs ks) (fun i s => s = encs ((ks.take i).filter fun v => !v.isNil)) (fun i x s hx hs => ?_) (fun s hs => ?_) rfl
  ·subst hs
   rw [encs_get] at hx
   obtain ⟨v, hv, rfl⟩ := Option.map_eq_some_iff.1 hx
   have hlt := (List.getElem?_eq_some_iff.1 hv).1
   have hlen : (encs ks).length = ks.length := encs_len ks
   have hg : (encs ks)[i]? = some (enc v) := by rw [encs_get, hv]; rfl
   have hb : decide ((i : Int) < ((encs ks).length : Int)) = true := by simp [hlen]; omega
   have hf : ((ks.take i).filter fun v => !v.isNil).length ≤ i := Nat.le_trans (List.length_filter_le _ _) (by rw [List.length_take]; omega)
   have ht : ks.take (i + 1) = ks.take i ++ [v] := by rw [List.take_add_one, hv]; rfl
   simp only [hb, cond_true, idx_nat, hg, Option.bind_some, enc_nil]
   cases hn : v.isNil with
   | true =>
    simp only [Bool.not_true, cond_false, Option.bind_some]
    refine OkP.of rfl ⟨wrapS (by omega), ?_⟩
    rw [ht, List.filter_append]
    simp [hn]
   | false =>
    simp only [Bool.not_false, cond_true]
    rw [app_of (by rw [encs_len]; simp; omega)]
    simp only [Option.bind_some]
    refine OkP.of rfl ⟨wrapS (by omega), ?_⟩
    rw [ht, List.filter_append, encs_app]
    simp [hn, encs]
  ·subst hs
   simp only [Int.lt_irrefl, decide_false, cond_false]
   refine OkP.of rfl ?_
   rw [encs_len, List.take_length]
 ·subst hr
  unfold joinV
  cases hk : ks.filter fun v => !v.isNil with
  | nil => exact OkP.of rfl rfl
  | cons v r =>
   have : decide ((((List.length (encs (v :: r)) : Nat) : Int) : Int) = (0 : Int)) = false := decide_eq_false (by simp [encs]; omega)
   simp only [this, cond_false]
   exact OkP.of rfl rfl
theorem within_ok (vs : List Vw) (i : Nat) (ks : List Int) (hl : ks.length ≤ 1048576) (hv : vs.length = i) (hk : ∀ k ∈ ks, 0 ≤ k ∧ k < i) : foliolaw01_within (encs vs) (i : Int) ks = some (encs (ks.map fun k => vs.getD k.toNat .nil)) := by
 unfold foliolaw01_within
 refine OkP.eq ?_
 refine OkP.bind (Q := fun r => r = encs (ks.map fun k => vs.getD k.toNat .nil)) ?_ fun r hr => OkP.of rfl hr
 refine OkP.range ks (fun j s => s = encs ((ks.take j).map fun k => vs.getD k.toNat .nil)) (fun j k s hj hs => ?_) (fun s hs => ?_) rfl
 ·subst hs
  have hlt := (List.getElem?_eq_some_iff.1 hj).1
  have hkk := hk k (List.mem_of_getElem? hj)
  have hb : decide ((j : Int) < (ks.length : Int)) = true := by simp; omega
  have h1 : decide ((0 : Int) ≤ k) = true := by simp [hkk.1]
  have h2 : decide (k < (i : Int)) = true := by simp [hkk.2]
  have hlv : k.toNat < vs.length := by omega
  have h3 : idx (encs vs) k = some (enc (vs.getD k.toNat .nil)) := by
   have e : (k.toNat : Int) = k := by omega
   rw [← e, idx_nat, encs_get, List.getElem?_eq_getElem (by omega), List.getD_eq_getElem?_getD, List.getElem?_eq_getElem (by omega)]
   rfl
  simp only [hb, cond_true, idx_nat, hj, Option.bind_some, h1, h2, h3]
  rw [app_of (by rw [encs_len, List.length_map, List.length_take]; simp; omega)]
  refine OkP.of rfl ⟨wrapS (by omega), ?_⟩
  rw [List.take_add_one, hj, List.map_append, encs_app]
  rfl
 ·subst hs
  simp only [Int.lt_irrefl, decide_false, cond_false]
  refine OkP.of rfl ?_
  rw [List.take_length]
theorem made_ok (L : List NodeD) (hlen : L.length ≤ 200) {tx : Nat → Int} (hF : ∀ i, i < L.length → Fit1 L tx i) : foliolaw01_made L = some (encs (Vs L)) := by
 unfold foliolaw01_made
 refine OkP.eq ?_
 refine OkP.bind (Q := fun r => r = encs (Vs L)) ?_ fun r hr => OkP.of rfl hr
 refine OkP.range L (fun i s => s = encs (Vs (L.take i))) (fun i n s hn hs => ?_) (fun s hs => ?_) rfl
 ·subst hs
  have hlt := (List.getElem?_eq_some_iff.1 hn).1
  have hf := hF i hlt
  have hkid := hf.kid n hn
  have hnum := hf.num n hn
  have hb : decide ((i : Int) < (L.length : Int)) = true := by simp; omega
  have hvl := Vs_len L i (by omega)
  have hw := within_ok (Vs (L.take i)) i (nKids n) (by omega) hvl hkid
  have hkl : ((nKids n).map fun k => (Vs (L.take i)).getD k.toNat .nil).length ≤ 1048576 := by rw [List.length_map]; omega
  simp only [hb, cond_true, idx_nat, hn, Option.bind_some, hw, enc_first, under_ok, in_ok, new_ok, join_ok _ hkl]
  have fin : ∀ e : Er, e = enc (mkV n (kidV (Vs (L.take i)) n)) → OkP False ((app 16 (encs (Vs (L.take i))) (e :: [])).bind fun r12 => some (Sum.inl ((IntKind.wrap .i64 ((i : Int) + (1 : Int)), r12) : Int × List Er) : Sum (Int × List Er) (List Er))) (fun d => match d with | .inl z => z.1 = ((i + 1 : Nat) : Int) ∧ z.2 = encs (Vs (L.take (i + 1))) | .inr k => k = encs (Vs L)) := fun e he => by
   rw [app_of (by rw [encs_len, hvl]; simp; omega)]
   refine OkP.of rfl ⟨wrapS (by omega), ?_⟩
   rw [Vs_take L hn, encs_app, he]
   rfl
  unfold mkV at fin
  by_cases h0 : n.1 = 0
  ·simp only [h0, if_true, decide_true, cond_true, Option.bind_some] at fin ⊢
   exact (fin _ rfl).imp id fun d hd => by cases d <;> exact hd
  by_cases h1 : n.1 = 1
  ·simp only [h1, if_true, decide_true, cond_true, Option.bind_some, show ((1 : Int) = 0) = False from by simp, decide_false, cond_false, if_false] at fin ⊢
   exact (fin _ rfl).imp id fun d hd => by cases d <;> exact hd
  by_cases h2 : n.1 = 2
  ·simp only [h2, if_true, decide_true, cond_true, Option.bind_some, show ((2 : Int) = 0) = False from by simp, show ((2 : Int) = 1) = False from by simp, decide_false, cond_false, if_false] at fin ⊢
   exact (fin _ rfl).imp id fun d hd => by cases d <;> exact hd
  by_cases h3 : n.1 = 3
  ·simp only [h3, if_true, decide_true, cond_true, Option.bind_some, show ((3 : Int) = 0) = False from by simp, show ((3 : Int) = 1) = False from by simp, show ((3 : Int) = 2) = False from by simp, decide_false, cond_false, if_false] at fin ⊢
   exact (fin _ rfl).imp id fun d hd => by cases d <;> exact hd
  simp only [h0, h1, h2, h3, if_false, decide_false, cond_false] at fin ⊢
  by_cases h4 : n.1 = 4
  ·simp only [h4, if_true, decide_true, cond_true, Option.bind_some] at fin ⊢
   exact (fin _ rfl).imp id fun d hd => by cases d <;> exact hd
  by_cases h5 : n.1 = 5
  ·simp only [h5, if_true, decide_true, cond_true, Option.bind_some, show ((5 : Int) = 4) = False from by simp, decide_false, cond_false, if_false] at fin ⊢
   exact (fin _ rfl).imp id fun d hd => by cases d <;> exact hd
  by_cases h6 : n.1 = 6
  ·simp only [h6, if_true, decide_true, cond_true, Option.bind_some, show ((6 : Int) = 4) = False from by simp, show ((6 : Int) = 5) = False from by simp, decide_false, cond_false, if_false] at fin ⊢
   exact (fin _ rfl).imp id fun d hd => by cases d <;> exact hd
  simp only [h4, h5, h6, if_false, decide_false, cond_false, Option.bind_some] at fin ⊢
  exact (fin _ rfl).imp id fun d hd => by cases d <;> exact hd
 ·subst hs
  simp only [Int.lt_irrefl, decide_false, cond_false]
  refine OkP.of rfl ?_
  rw [List.take_length]
end Go.Fn
/- Chapter 1, plainly: how deep errors are. -/
namespace Go.Fn
open Go Go.Lf Go.Eng Go.Proofs
mutual
def Deep : Nat → Nat → Vw → Prop
 | _, _, .nil => True
 | _, n, .new .. => 1 ≤ n
 | d, n, .und _ _ k => 1 ≤ d ∧ Deep (d - 1) n k
 | d, n, .inn _ k => 1 ≤ d ∧ Deep (d - 1) n k
 | d, n, .join ks => 1 ≤ d ∧ ks.length ≤ 1048576 ∧ Deeps (d - 1) n ks
 | _, _, .plain _ => True
 | d, n, .wrap _ k => 1 ≤ d ∧ Deep (d - 1) n k
 | d, n, .many _ ks => 1 ≤ d ∧ ks.length ≤ 1048576 ∧ Deeps (d - 1) n ks
def Deeps : Nat → Nat → List Vw → Prop
 | _, _, [] => True
 | d, n, v :: r => ∃ a, a ≤ n ∧ Deep d a v ∧ Deeps d (n - a) r
end
mutual
theorem Deep.mono : ∀ (v : Vw) {d d' n n' : Nat}, d ≤ d' → n ≤ n' → Deep d n v → Deep d' n' v
 | .nil, _, _, _, _, _, _, _ => trivial
 | .new .., _, _, _, _, _, hn, h => by have h : 1 ≤ _ := h; show 1 ≤ _; omega
 | .und _ _ k, _, _, _, _, hd, hn, h => ⟨by have := h.1; omega, Deep.mono k (by omega) hn h.2⟩
 | .inn _ k, _, _, _, _, hd, hn, h => ⟨by have := h.1; omega, Deep.mono k (by omega) hn h.2⟩
 | .join ks, _, _, _, _, hd, hn, h => ⟨by have := h.1; omega, h.2.1, Deeps.mono ks (by omega) hn h.2.2⟩
 | .plain _, _, _, _, _, _, _, _ => trivial
 | .wrap _ k, _, _, _, _, hd, hn, h => ⟨by have := h.1; omega, Deep.mono k (by omega) hn h.2⟩
 | .many _ ks, _, _, _, _, hd, hn, h => ⟨by have := h.1; omega, h.2.1, Deeps.mono ks (by omega) hn h.2.2⟩
theorem Deeps.mono : ∀ (l : List Vw) {d d' n n' : Nat}, d ≤ d' → n ≤ n' → Deeps d n l → Deeps d' n' l
 | [], _, _, _, _, _, _, _ => trivial
 | v :: r, _, _, _, _, hd, hn, h => by
  obtain ⟨a, h1, h2, h3⟩ := h
  exact ⟨a, by omega, Deep.mono v hd (Nat.le_refl _) h2, Deeps.mono r hd (by omega) h3⟩
end
theorem deeps_filter {d : Nat} : ∀ (l : List Vw) (n : Nat), Deeps d n l → Deeps d n (l.filter fun v => !v.isNil)
 | [], _, _ => trivial
 | v :: r, n, h => by
  obtain ⟨a, h1, h2, h3⟩ := h
  have h4 := deeps_filter r _ h3
  cases hn : v.isNil with
  | true => rw [List.filter_cons_of_neg (by simp [hn])]; exact Deeps.mono _ (Nat.le_refl _) (by omega) h4
  | false => rw [List.filter_cons_of_pos (by simp [hn])]; exact ⟨a, h1, h2, h4⟩
theorem deep_join {d n : Nat} {ks : List Vw} (hl : ks.length ≤ 1048576) (h : Deeps d n ks) : Deep (d + 1) n (joinV ks) := by
 unfold joinV
 have h1 := deeps_filter ks n h
 have h2 := List.length_filter_le (fun v : Vw => !v.isNil) ks
 split
 ·exact trivial
 ·exact ⟨by omega, by omega, h1⟩
theorem deeps_kids {L : List NodeD} {tx : Nat → Int} {d : Nat} : ∀ (ks : List Int) (n : Nat), (∀ k ∈ ks, 0 ≤ tx k.toNat ∧ Deep d (tx k.toNat).toNat ((Vs L).getD k.toNat .nil)) → sumK tx ks ≤ n → Deeps d n (ks.map fun k => (Vs L).getD k.toNat .nil)
 | [], _, _, _ => trivial
 | k :: r, n, h, hb => by
  have h1 := h k List.mem_cons_self
  have hr := fun k hk => h k (List.mem_cons_of_mem _ hk)
  have hp : 0 ≤ sumK tx r := by
   clear hb h h1
   induction r with
   | nil => simp [sumK]
   | cons a r ih =>
    have h2 := ih fun k hk => hr k (List.mem_cons_of_mem _ hk)
    have h3 := (hr a List.mem_cons_self).1
    simp only [sumK, List.map_cons, List.sum_cons] at h2 ⊢
    omega
  have e : sumK tx (k :: r) = tx k.toNat + 2 + sumK tx r := by simp [sumK]
  rw [e] at hb
  exact ⟨(tx k.toNat).toNat, by omega, h1.2, deeps_kids r _ hr (by omega)⟩
theorem deepV {L : List NodeD} {tx : Nat → Int} (hL : ∀ i, i < L.length → Fit1 L tx i) : ∀ (i : Nat), i < L.length → Deep (i + 1) (tx i).toNat ((Vs L).getD i .nil) := by
 intro i
 induction i using Nat.strongRecOn with
 | ind i ih =>
 intro hi
 obtain ⟨n, hn⟩ : ∃ n, L[i]? = some n := ⟨L[i], List.getElem?_eq_getElem hi⟩
 have hF := hL i hi
 have hkid := hF.kid n hn
 have ht := hF.text n hn
 have hle := hF.le
 have hnum := hF.num n hn
 have hk : ∀ k ∈ nKids n, 0 ≤ tx k.toNat ∧ Deep i (tx k.toNat).toNat ((Vs L).getD k.toNat .nil) := fun k hk => by
  have h1 := hkid k hk
  exact ⟨(hL k.toNat (by omega)).le.1, Deep.mono _ (by omega) (Nat.le_refl _) (ih k.toNat (by omega) (by omega))⟩
 have hds : Deeps i (tx i).toNat (kidV (Vs L) n) := deeps_kids (nKids n) _ hk (by omega)
 have hkl : (kidV (Vs L) n).length ≤ 1048576 := by unfold kidV; rw [List.length_map]; omega
 have e : (Vs L).getD i .nil = mkV n (kidV (Vs L) n) := by
  rw [List.getD_eq_getElem?_getD, Vs_get L hn hkid]
  rfl
 rw [e]
 have hfirst : Deep i (tx i).toNat (firstV (kidV (Vs L) n)) := by
  revert hds
  generalize kidV (Vs L) n = ks
  intro hds
  cases ks with
  | nil => exact trivial
  | cons v r =>
   obtain ⟨a, h1, h2, _⟩ := hds
   exact Deep.mono _ (Nat.le_refl _) h1 h2
 have hpos : 1 ≤ (tx i).toNat := by
  have hp : 0 ≤ sumK tx (nKids n) := by
   have : ∀ l : List Int, (∀ k ∈ l, 0 ≤ tx k.toNat) → 0 ≤ sumK tx l := fun l => by
    induction l with
    | nil => intro _; simp [sumK]
    | cons a r ih2 =>
     intro h
     have h2 := ih2 fun k hk => h k (List.mem_cons_of_mem _ hk)
     have h3 := h a List.mem_cons_self
     simp only [sumK, List.map_cons, List.sum_cons] at h2 ⊢
     omega
   exact this _ fun k h => (hk k h).1
  omega
 unfold mkV
 split
 ·split
  ·exact trivial
  ·exact hpos
 split
 ·cases (firstV (kidV (Vs L) n)).isNil with
  | true => exact trivial
  | false => exact ⟨by omega, hfirst⟩
 split
 ·cases (firstV (kidV (Vs L) n)).isNil with
  | true => exact trivial
  | false => exact ⟨by omega, hfirst⟩
 split
 ·exact deep_join hkl hds
 split
 ·exact trivial
 split
 ·exact ⟨by omega, hfirst⟩
 split
 ·exact ⟨by omega, hkl, hds⟩
 ·exact trivial
theorem unw_join (ks : List Vw) (h : ks.length ≤ 1048576) : mUnwraps (enc (.join ks)) = some (encs ks) := by
 show (app 16 ([] : List Er) (encs ks)).bind _ = _
 have hl : (encs ks).length = ks.length := by rw [encs_map, List.length_map]
 rw [app_of (by rw [hl]; simp; omega)]
 rfl
end Go.Fn
/- From what a row says of its arguments. -/
namespace Go.Fn
open Go Go.Lf Go.Eng Go.Proofs
abbrev NodeT : Ty := .st (.pr (.int .i64) (.pr (.st (.pr (.int .i64) (.pr (.int .i64) (.pr (.int .i64) (.pr (.int .i64) (.pr .str (.pr (.sl (.st (.pr .str (.pr (.int .i64) .unit)))) .unit))))))) (.pr .str (.pr (.int .i64) (.pr (.sl (.int .i64)) .unit)))))
theorem node_byt : Ty.byt NodeT = 128 := by kernel_rfl
theorem int_byt : Ty.byt (.int .i64) = 8 := by kernel_rfl
theorem nwf_of {L : List NodeD} (h : Wf (.sl NodeT) L) : NWf L := by
 obtain ⟨h1, h2⟩ := h
 have h1 : L.length * Ty.byt NodeT ≤ 140737488351232 := h1
 rw [node_byt] at h1
 refine ⟨by omega, fun n hn => ?_, fun n hn => ?_, fun n hn => ?_⟩
 ·obtain ⟨_, _, _, _, ⟨h3, _⟩, _⟩ := h2 n hn
  have h3 : (nKids n).length * Ty.byt (.int .i64) ≤ 140737488351232 := h3
  rw [int_byt] at h3
  omega
 ·obtain ⟨_, ⟨_, _, _, _, h3, _⟩, _⟩ := h2 n hn
  have h3 : (nWord n).length ≤ 140737488351232 := h3
  omega
 ·obtain ⟨_, _, h3, _⟩ := h2 n hn
  have h3 : (nLayer n).length ≤ 140737488351232 := h3
  omega
def NI (n : NodeD) : Prop := (I64 (nCode n) ∧ I64 (nSrc n) ∧ I64 (nLine n) ∧ I64 (nCol n)) ∧ I64 (nWhat n)
theorem ni_of {L : List NodeD} (h : Wf (.sl NodeT) L) : ∀ n ∈ L, NI n := fun n hn => by
 obtain ⟨_, ⟨h1, h2, h3, h4, _⟩, _, h5, _⟩ := h.2 n hn
 exact ⟨⟨h1, h2, h3, h4⟩, h5⟩
end Go.Fn
/- Chapter 1, plainly: which codes an error has. -/
namespace Go.Fn
open Go Go.Lf Go.Eng Go.Proofs
mutual
def hasV (c : Int) : Vw → Bool
 | .nil => false
 | .new k _ _ _ _ => decide (k = c)
 | .und _ _ k => hasV c k
 | .inn _ k => hasV c k
 | .join ks => hasVs c ks
 | .plain _ => false
 | .wrap _ k => hasV c k
 | .many _ ks => hasVs c ks
def hasVs (c : Int) : List Vw → Bool
 | [] => false
 | v :: r => hasV c v || hasVs c r
end
theorem is_new (n : Nat) (c k s l o : Int) (w : List UInt8) : isN (n + 1) c (enc (.new k s l o w)) = some (decide ((1 : Int) = 1) && decide (k = c)) := rfl
theorem is_und (n : Nat) (c : Int) (la : List UInt8) (wh : Int) (k : Vw) : isN (n + 1) c (enc (.und la wh k)) = isN n c (enc k) := rfl
theorem is_inn (n : Nat) (c : Int) (s : Int) (k : Vw) : isN (n + 1) c (enc (.inn s k)) = isN n c (enc k) := rfl
theorem is_join (n : Nat) (c : Int) (ks : List Vw) (h : ks.length ≤ 1048576) : isN (n + 1) c (enc (.join ks)) = bif Nat.ble (encs ks).length 1048576 then anyN (isN n c) (encs ks) else none := by
 show (mUnwraps (enc (.join ks))).bind (fun l => bif Nat.ble l.length 1048576 then anyN (isN n c) l else none) = _
 rw [unw_join ks h]
 rfl
theorem is_wrap (n : Nat) (c : Int) (t : List UInt8) (k : Vw) : isN (n + 1) c (enc (.wrap t k)) = isN n c (enc k) := rfl
theorem is_many (n : Nat) (c : Int) (t : List UInt8) (ks : List Vw) : isN (n + 1) c (enc (.many t ks)) = bif Nat.ble (encs ks).length 1048576 then anyN (isN n c) (encs ks) else none := rfl
mutual
theorem is_enc (c : Int) : ∀ (v : Vw) (d n m : Nat), Deep d n v → d < m → isN m c (enc v) = some (hasV c v)
 | v, _, _, 0, _, h => absurd h (by omega)
 | .nil, _, _, _ + 1, _, _ => rfl
 | .new k s l o w, _, _, m + 1, _, _ => by rw [is_new]; simp [hasV]
 | .und la wh k, d, n, m + 1, h, hm => by rw [is_und, is_enc c k (d - 1) n m h.2 (by have := h.1; omega)]; rfl
 | .inn s k, d, n, m + 1, h, hm => by rw [is_inn, is_enc c k (d - 1) n m h.2 (by have := h.1; omega)]; rfl
 | .join ks, d, n, m + 1, h, hm => by
  have e : Nat.ble (encs ks).length 1048576 = true := Nat.ble_eq_true_of_le (by rw [encs_len]; exact h.2.1)
  rw [is_join _ _ _ h.2.1, e, cond_true, is_encs c ks (d - 1) n m h.2.2 (by have := h.1; omega)]; rfl
 | .plain t, _, _, m + 1, _, _ => rfl
 | .wrap t k, d, n, m + 1, h, hm => by rw [is_wrap, is_enc c k (d - 1) n m h.2 (by have := h.1; omega)]; rfl
 | .many t ks, d, n, m + 1, h, hm => by
  have e : Nat.ble (encs ks).length 1048576 = true := Nat.ble_eq_true_of_le (by rw [encs_len]; exact h.2.1)
  rw [is_many, e, cond_true, is_encs c ks (d - 1) n m h.2.2 (by have := h.1; omega)]; rfl
theorem is_encs (c : Int) : ∀ (l : List Vw) (d n m : Nat), Deeps d n l → d < m → anyN (isN m c) (encs l) = some (hasVs c l)
 | [], _, _, _, _, _ => rfl
 | v :: r, d, n, m, h, hm => by
  obtain ⟨a, h1, h2, h3⟩ := h
  show (isN m c (enc v)).bind _ = _
  rw [is_enc c v d a m h2 hm]
  simp only [Option.bind_some, is_encs c r d _ m h3 hm, hasVs]
  cases hasV c v <;> rfl
end
theorem fis_ok {c : Int} (hc : c ≠ 0) {v : Vw} {d n : Nat} (h : Deep d n v) (hd : d < 400) : fault_Is (enc v) c = some (hasV c v) := by
 unfold fault_Is
 rw [decide_eq_false hc, cond_false]
 exact is_enc c v d n 400 h hd
theorem hasVs_filter (c : Int) : ∀ l : List Vw, hasVs c (l.filter fun v => !v.isNil) = hasVs c l
 | [] => rfl
 | v :: r => by
  cases hn : v.isNil with
  | true =>
   rw [List.filter_cons_of_neg (by simp [hn]), hasVs_filter c r]
   have : hasV c v = false := by cases v <;> first | rfl | cases hn
   simp [hasVs, this]
  | false =>
   rw [List.filter_cons_of_pos (by simp [hn])]
   simp only [hasVs, hasVs_filter c r]
theorem has_join (c : Int) (l : List Vw) : hasV c (joinV l) = hasVs c l := by
 rw [← hasVs_filter]
 unfold joinV
 split
 ·rename_i h
  rw [h]
  rfl
 ·rfl
theorem eis_code {c : Int} (_ : c ≠ 0) {v : Vw} {d n : Nat} (h : Deep d n v) (hd : d < 400) {T : Er} (hT : T = enc (.new c 0 0 0 [])) : errors_Is (enc v, T) = some (hasV c v) := by
 subst hT
 show (bif decide ((1 : Int) = 1) then isN 400 c (enc v) else none) = _
 rw [show decide ((1 : Int) = 1) = true from rfl, cond_true]
 exact is_enc c v d n 400 h hd
end Go.Fn
/- Chapter 1, plainly: the faults of an error. -/
namespace Go.Fn
open Go Go.Lf Go.Eng Go.Proofs
abbrev StepD : Type := List UInt8 × (Int × Unit)
abbrev WayD : Type := Int × (Int × (List StepD × Unit))
abbrev FaultD : Type := Int × (Int × (Int × (Int × (List UInt8 × (List StepD × Unit)))))
def mkF (w : WayD) (c s l o : Int) (wd : List UInt8) : FaultD := (c, (if w.1 = 1 then w.2.1 else s, (l, (o, (wd, (w.2.2.1, ()))))))
mutual
def gathV : Vw → WayD → List FaultD
 | .nil, _ => []
 | .new c s l o wd, w => [mkF w c s l o wd]
 | .und la wh k, w => gathV k (w.1, (w.2.1, (w.2.2.1 ++ [(la, (wh, ()))], ())))
 | .inn s k, w => gathV k (if w.1 = 0 then (1, (s, w.2.2)) else w)
 | .join ks, w => gathVs ks w
 | .plain _, _ => []
 | .wrap _ k, w => gathV k w
 | .many _ ks, w => gathVs ks w
def gathVs : List Vw → WayD → List FaultD
 | [], _ => []
 | v :: r, w => gathV v w ++ gathVs r w
end
mutual
theorem gathV_len : ∀ (v : Vw) (d n : Nat) (w : WayD), Deep d n v → (gathV v w).length ≤ n
 | .nil, _, _, _, _ => by simp [gathV]
 | .new .., _, _, _, h => by have h : 1 ≤ _ := h; simpa [gathV] using h
 | .und _ _ k, _, _, _, h => by simp only [gathV]; exact gathV_len k _ _ _ h.2
 | .inn _ k, _, _, _, h => by simp only [gathV]; exact gathV_len k _ _ _ h.2
 | .join ks, _, _, _, h => by simp only [gathV]; exact gathVs_len ks _ _ _ h.2.2
 | .plain _, _, _, _, _ => by simp [gathV]
 | .wrap _ k, _, _, _, h => by simp only [gathV]; exact gathV_len k _ _ _ h.2
 | .many _ ks, _, _, _, h => by simp only [gathV]; exact gathVs_len ks _ _ _ h.2.2
theorem gathVs_len : ∀ (l : List Vw) (d n : Nat) (w : WayD), Deeps d n l → (gathVs l w).length ≤ n
 | [], _, _, _, _ => by simp [gathVs]
 | v :: r, d, n, w, h => by
  obtain ⟨a, h1, h2, h3⟩ := h
  have h4 := gathV_len v d a w h2
  have h5 := gathVs_len r d _ w h3
  simp only [gathVs, List.length_append]
  omega
end
noncomputable abbrev gB := fault_gatherB
theorem g_nil (self : Er × (WayD × List FaultD) → Option (List FaultD)) (w : WayD) (l : List FaultD) : gB self (enc .nil) w l = some l := rfl
theorem g_plain (self : Er × (WayD × List FaultD) → Option (List FaultD)) (t : List UInt8) (w : WayD) (l : List FaultD) : gB self (enc (.plain t)) w l = some l := rfl
theorem g_und (self : Er × (WayD × List FaultD) → Option (List FaultD)) (la : List UInt8) (wh : Int) (k : Vw) (w : WayD) (l : List FaultD) (hw : w.2.2.1.length ≤ 1000000000) :
  gB self (enc (.und la wh k)) w l = self (enc k, ((w.1, (w.2.1, (w.2.2.1 ++ [(la, (wh, ()))], ()))), l)) := by
 have e1 : full ((w.2.2.1.length : Nat) : Int) ((w.2.2.1.length : Nat) : Int) w.2.2.1.length = some () := by
  unfold full
  first | (rw [if_pos ⟨by omega, by omega⟩]) | (rw [if_pos ⟨rfl, rfl⟩]) | simp
 have e2 : appF 24 w.2.2.1 [(la, (wh, ()))] = some (w.2.2.1 ++ [(la, (wh, ()))]) := app_of (by simp; omega)
 show (((full _ _ _).bind fun _ => ((appF 24 w.2.2.1 [(la, (wh, ()))]).bind fun r10 => (self (enc k, ((w.1, (w.2.1, (r10, w.2.2.2))), l))).bind fun r12 => some r12)).bind fun r => some r) = _
 rw [e1, e2]
 simp only [Option.bind_some]
 cases self (enc k, ((w.1, (w.2.1, (w.2.2.1 ++ [(la, (wh, ()))], w.2.2.2))), l)) <;> rfl
theorem g_inn (self : Er × (WayD × List FaultD) → Option (List FaultD)) (s : Int) (k : Vw) (w : WayD) (l : List FaultD) :
  gB self (enc (.inn s k)) w l = self (enc k, ((if w.1 = 0 then (1, (s, w.2.2)) else w), l)) := by
 show (((bif decide ((w.1 : Int) = 0) then some (l, ((1 : Int), (s, w.2.2))) else some (l, w)).bind fun r15 => (self (enc k, (r15.2, r15.1))).bind fun r17 => some r17).bind fun r => some r) = _
 by_cases h : w.1 = 0
 ·rw [decide_eq_true h, if_pos h, cond_true]
  simp only [Option.bind_some]
  cases self (enc k, ((1, (s, w.2.2)), l)) <;> rfl
 ·rw [decide_eq_false h, if_neg h, cond_false]
  simp only [Option.bind_some]
  cases self (enc k, (w, l)) <;> rfl
theorem g_wrap (self : Er × (WayD × List FaultD) → Option (List FaultD)) (t : List UInt8) (k : Vw) (w : WayD) (l : List FaultD) : gB self (enc (.wrap t k)) w l = self (enc k, (w, l)) := by
 show ((self (enc k, (w, l))).bind fun r20 => some r20).bind _ = _
 cases self (enc k, (w, l)) <;> rfl
theorem g_new (self : Er × (WayD × List FaultD) → Option (List FaultD)) (c s li o : Int) (wd : List UInt8) (w : WayD) (l : List FaultD) (hw : w.2.2.1.length ≤ 1000000000) (hl : l.length ≤ 1000000000) :
  gB self (enc (.new c s li o wd)) w l = some (l ++ [mkF w c s li o wd]) := by
 have e1 : app 24 ([] : List StepD) w.2.2.1 = some w.2.2.1 := by rw [app_of (by simp; omega)]; rfl
 show (((bif decide ((w.1 : Int) = 1) then some (l, (((c, (w.2.1, (li, (o, (wd, (([] : List StepD), ())))))) : FaultD), w)) else some (l, (((c, (s, (li, (o, (wd, (([] : List StepD), ())))))) : FaultD), w))).bind fun r4 =>
  (app 24 ([] : List StepD) r4.2.2.2.2.1).bind fun r5 => (app 72 r4.1 [((r4.2.1.1, (r4.2.1.2.1, (r4.2.1.2.2.1, (r4.2.1.2.2.2.1, (r4.2.1.2.2.2.2.1, (r5, r4.2.1.2.2.2.2.2.2)))))) : FaultD)]).bind fun r6 => some r6).bind fun r => some r) = _
 unfold mkF
 by_cases h : w.1 = 1
 ·rw [decide_eq_true h, if_pos h, cond_true]
  simp only [Option.bind_some, e1]
  rw [app_of (by simp; omega)]
  rfl
 ·rw [decide_eq_false h, if_neg h, cond_false]
  simp only [Option.bind_some, e1]
  rw [app_of (by simp; omega)]
  rfl
noncomputable def gLoop (self : Er × (WayD × List FaultD) → Option (List FaultD)) (es : List Er) (w : WayD) (l : List FaultD) : Option (List FaultD) :=
 Go.Lf.loopC (σ := Int × (List FaultD × WayD)) (κ := List FaultD) (fun z23 =>
    bif (decide (z23.1 < (((List.length es) : Nat) : Int))) then ((Go.Lf.idx es z23.1)).bind fun r24 =>
    ((self (r24, (z23.2.2, z23.2.1)))).bind fun r25 =>
    some (.inl ((Go.IntKind.wrap .i64 (z23.1 + (1 : Int))), (r25, z23.2.2)))
    else some (.inr z23.2.1)) ((0 : Int), (l, w))
theorem bind_id {α : Type} (x : Option α) : (x.bind fun r => some r) = x := by cases x <;> rfl
theorem g_many (self : Er × (WayD × List FaultD) → Option (List FaultD)) (t : List UInt8) (ks : List Vw) (w : WayD) (l : List FaultD) : gB self (enc (.many t ks)) w l = gLoop self (encs ks) w l := by
 show ((gLoop self (encs ks) w l).bind fun r => some r).bind (fun r => some r) = _
 rw [bind_id, bind_id]
theorem g_join (self : Er × (WayD × List FaultD) → Option (List FaultD)) (ks : List Vw) (w : WayD) (l : List FaultD) (hu : mUnwraps (enc (.join ks)) = some (encs ks)) : gB self (enc (.join ks)) w l = gLoop self (encs ks) w l := by
 show ((((mUnwraps (enc (.join ks))).bind fun r22 => (gLoop self r22 w l).bind fun r => some r)).bind fun r => some r) = _
 rw [hu]
 simp only [Option.bind_some, bind_id]
theorem gathVs_take (w : WayD) : ∀ (ks : List Vw) (j : Nat) (v : Vw), ks[j]? = some v → gathVs (ks.take (j + 1)) w = gathVs (ks.take j) w ++ gathV v w
 | [], _, _, h => by simp at h
 | x :: r, 0, v, h => by
  have h : x = v := by simpa using h
  subst h
  simp [gathVs]
 | x :: r, j + 1, v, h => by
  have := gathVs_take w r j v (by simpa using h)
  simp only [List.take_succ_cons, gathVs, this, List.append_assoc]
theorem deeps_get {d : Nat} (w : WayD) : ∀ (ks : List Vw) (n j : Nat) (v : Vw), Deeps d n ks → ks[j]? = some v → ∃ a, Deep d a v ∧ (gathVs (ks.take j) w).length + a ≤ n
 | [], _, _, _, _, h => by simp at h
 | x :: r, n, 0, v, hd, h => by
  obtain ⟨a, h1, h2, _⟩ := hd
  have h : x = v := by simpa using h
  subst h
  exact ⟨a, h2, by simpa [gathVs] using h1⟩
 | x :: r, n, j + 1, v, hd, h => by
  obtain ⟨a, h1, h2, h3⟩ := hd
  obtain ⟨b, h4, h5⟩ := deeps_get w r (n - a) j v h3 (by simpa using h)
  refine ⟨b, h4, ?_⟩
  have := gathV_len x d a w h2
  simp only [List.take_succ_cons, gathVs, List.length_append]
  omega
theorem gLoop_ok {may : Prop} {self : Er × (WayD × List FaultD) → Option (List FaultD)} {ks : List Vw} {d n : Nat} {w : WayD} {l : List FaultD} (hk : ks.length ≤ 1048576) (hd : Deeps d n ks) (hl : l.length + n ≤ 1000000000)
  (h : ∀ v a l', Deep d a v → l'.length + a ≤ 1000000000 → OkP may (self (enc v, (w, l'))) (· = l' ++ gathV v w)) : OkP may (gLoop self (encs ks) w l) (· = l ++ gathVs ks w) := by
 unfold gLoop
 have hlen : (encs ks).length = ks.length := by rw [encs_map, List.length_map]
 refine OkP.range (encs ks) (fun j s => s = (l ++ gathVs (ks.take j) w, w)) (fun j x s hx hs => ?_) (fun s hs => ?_) (by simp [gathVs])
 ·subst hs
  have hxe := hx
  rw [encs_map, List.getElem?_map] at hxe
  obtain ⟨v, hv, rfl⟩ := Option.map_eq_some_iff.1 hxe
  have hlt := (List.getElem?_eq_some_iff.1 hv).1
  obtain ⟨a, h1, h2⟩ := deeps_get w ks n j v hd hv
  have hb : decide ((j : Int) < ((List.length (encs ks) : Nat) : Int)) = true := by simp [hlen]; omega
  simp only [hb, cond_true, idx_nat, hx, Option.bind_some]
  refine OkP.bind (h v a _ h1 (by rw [List.length_append]; omega)) fun r hr => ?_
  subst hr
  refine OkP.of rfl ⟨wrapS (by omega), ?_⟩
  rw [gathVs_take w ks j v hv, List.append_assoc]
 ·subst hs
  simp only [Int.lt_irrefl, decide_false, cond_false]
  refine OkP.of rfl ?_
  rw [hlen, List.take_length]
theorem gatherN_ok : ∀ (m : Nat) (v : Vw) (d n : Nat) (w : WayD) (l : List FaultD), Deep d n v → w.2.2.1.length + d ≤ 1000000000 → l.length + n ≤ 1000000000 → OkP (m ≤ d) (fault_gatherN m (enc v, (w, l))) (· = l ++ gathV v w) := by
 intro m
 induction m with
 | zero => exact fun v d n w l _ _ _ => .inr ⟨Nat.zero_le _, rfl⟩
 | succ m ih =>
  intro v d n w l hd hw hl
  have kid : ∀ (k : Vw) (w' : WayD), 1 ≤ d → Deep (d - 1) n k → w'.2.2.1.length + (d - 1) ≤ 1000000000 → OkP (m + 1 ≤ d) (fault_gatherN m (enc k, (w', l))) (· = l ++ gathV k w') := fun k w' h1 h2 h3 => (ih k (d - 1) n w' l h2 h3 hl).imp (fun h => by omega) fun _ h => h
  have kids : ∀ (ks : List Vw), 1 ≤ d → ks.length ≤ 1048576 → Deeps (d - 1) n ks → OkP (m + 1 ≤ d) (gLoop (fault_gatherN m) (encs ks) w l) (· = l ++ gathVs ks w) := fun ks h1 h2 h3 => gLoop_ok h2 h3 hl fun v a l' h4 h5 => (ih v (d - 1) a w l' h4 (by omega) h5).imp (fun h => by omega) fun _ h => h
  show OkP (m + 1 ≤ d) (gB (fault_gatherN m) (enc v) w l) _
  cases v with
  | nil => exact OkP.of (g_nil _ _ _) (by simp [gathV])
  | plain t => exact OkP.of (g_plain _ _ _ _) (by simp [gathV])
  | new c s li o wd =>
   have h1 : 1 ≤ n := hd
   exact OkP.of (g_new _ _ _ _ _ _ _ _ (by omega) (by omega)) (by simp [gathV])
  | und la wh k =>
   obtain ⟨h1, h2⟩ := hd
   rw [g_und _ _ _ _ _ _ (by omega)]
   exact kid k _ h1 h2 (by simp; omega)
  | inn s k =>
   obtain ⟨h1, h2⟩ := hd
   rw [g_inn]
   refine kid k _ h1 h2 ?_
   split
   ·show w.2.2.1.length + (d - 1) ≤ _
    omega
   ·omega
  | join ks =>
   obtain ⟨h1, h2, h3⟩ := hd
   rw [g_join _ _ _ _ (unw_join ks h2)]
   exact kids ks h1 h2 h3
  | wrap t k =>
   obtain ⟨h1, h2⟩ := hd
   rw [g_wrap]
   exact kid k w h1 h2 (by omega)
  | many t ks =>
   obtain ⟨h1, h2, h3⟩ := hd
   rw [g_many]
   exact kids ks h1 h2 h3
def way0 : WayD := (0, (0, ([], ())))
theorem gather_ok {v : Vw} {d n : Nat} (hd : Deep d n v) (h1 : d ≤ 1000000) (h2 : n ≤ 1000000000) : fault_gather (enc v) way0 [] = some (gathV v way0) := by
 refine supC_ok d fun m => ?_
 exact (gatherN_ok m v d n way0 [] hd (by show 0 + d ≤ _; omega) (by simp; omega)).imp id fun _ h => by rw [h]; rfl
end Go.Fn
/- Chapter 1, plainly: all faults of an error; wrapped ones. -/
namespace Go.Fn
open Go Go.Lf Go.Eng Go.Proofs
def bareV : Vw → List StepD
 | .und la wh k => (la, (wh, ())) :: bareV k
 | .inn _ k => bareV k
 | _ => []
def allV (v : Vw) : List FaultD := bif v.isNil then [] else match gathV v way0 with
 | [] => [(10, (0, (0, (0, ([], (bareV v, ()))))))]
 | l => l
end Go.Fn
/- Chapter 1, plainly: all faults; faults alike; wrapped ones. -/
namespace Go.Fn
open Go Go.Lf Go.Eng Go.Proofs
theorem bare_ok {v : Vw} {d n : Nat} (hd : Deep d n v) (h : d ≤ 1000000) : fault_bare (enc v) = some (bareV v) := by
 unfold fault_bare
 refine OkP.eq ?_
 refine OkP.bind (Q := fun r => r = bareV v) ?_ fun r hr => OkP.of rfl hr
 refine OkP.loop (fun m z => ∃ v' n', Deep m n' v' ∧ z.2 = enc v' ∧ z.1 ++ bareV v' = bareV v ∧ z.1.length + m ≤ 1000000) (fun m z hz => ?_) d ([], enc v) ⟨v, n, hd, rfl, rfl, by simpa using h⟩
 obtain ⟨v', n', h1, h2, h3, h4⟩ := hz
 obtain ⟨z1, z2⟩ := z
 simp only at h2 h3 h4
 subst h2
 have stop : bareV v' = [] → z1 = bareV v := fun h => by rw [h, List.append_nil] at h3; exact h3
 cases v' with
 | und la wh k =>
  obtain ⟨g1, g2⟩ := h1
  change OkP False ((app 24 z1 [(la, (wh, ()))]).bind fun r4 => some (Sum.inl (r4, enc k))) _
  rw [app_of (by simp; omega)]
  refine OkP.some ⟨m - 1, by omega, k, n', g2, rfl, ?_, by simp; omega⟩
  rw [← h3]
  simp [bareV]
 | inn s k =>
  obtain ⟨g1, g2⟩ := h1
  change OkP False (some (Sum.inl (z1, enc k))) _
  exact OkP.some ⟨m - 1, by omega, k, n', g2, rfl, h3, by show z1.length + (m - 1) ≤ _; omega⟩
 | nil => change OkP False (some (Sum.inr z1)) _; exact OkP.some (stop rfl)
 | new => change OkP False (some (Sum.inr z1)) _; exact OkP.some (stop rfl)
 | join => change OkP False (some (Sum.inr z1)) _; exact OkP.some (stop rfl)
 | plain => change OkP False (some (Sum.inr z1)) _; exact OkP.some (stop rfl)
 | wrap => change OkP False (some (Sum.inr z1)) _; exact OkP.some (stop rfl)
 | many => change OkP False (some (Sum.inr z1)) _; exact OkP.some (stop rfl)
theorem all_ok {v : Vw} {d n : Nat} (hd : Deep d n v) (h1 : d ≤ 1000000) (h2 : n ≤ 1000000000) : fault_All (enc v) = some (allV v) := by
 unfold fault_All allV
 rw [enc_nil]
 cases v.isNil with
 | true => rfl
 | false =>
  simp only [cond_false]
  rw [show fault_gather (enc v) ((0 : Int), ((0 : Int), (([] : List StepD), ()))) [] = some (gathV v way0) from gather_ok hd h1 h2]
  simp only [Option.bind_some]
  cases gathV v way0 with
  | nil =>
   simp only [List.length_nil, show decide ((0 : Int) < ((0 : Nat) : Int)) = false from rfl, cond_false, bare_ok hd h1, Option.bind_some]
  | cons a r =>
   have : decide ((0 : Int) < (((a :: r).length : Nat) : Int)) = true := decide_eq_true (by simp)
   rw [this]
   rfl
theorem step_refl (s : List UInt8) : decide ((s : List UInt8) ≠ s) = false := decide_eq_false (by simp)
theorem int_refl (x : Int) : decide ((x : Int) ≠ x) = false := decide_eq_false (by simp)
theorem same_refl (f : FaultD) (h : f.2.2.2.2.2.1.length ≤ 1000000000) : folioref01_Same f f = some true := by
 unfold folioref01_Same
 simp only [step_refl, int_refl, Bool.not_false, cond_true, Option.bind_some, cond_false]
 refine OkP.eq ?_
 refine OkP.bind (Q := fun r => match r with | .inl _ => True | .inr _ => False) ?_ fun r hr => ?_
 ·refine OkP.range (α := StepD) f.2.2.2.2.2.1 (fun _ s => s = (f, f)) (fun j x s hx hs => ?_) (fun s hs => ?_) rfl
  ·subst hs
   have hlt := (List.getElem?_eq_some_iff.1 hx).1
   have hb : decide ((j : Int) < ((List.length f.2.2.2.2.2.1 : Nat) : Int)) = true := by simp; omega
   simp only [hb, cond_true, idx_nat, hx, Option.bind_some, step_refl, int_refl, Bool.not_false, cond_false]
   exact OkP.of rfl ⟨wrapS (by omega), rfl⟩
  ·subst hs
   simp only [Int.lt_irrefl, decide_false, cond_false]
   exact OkP.of rfl trivial
 ·cases r with
  | inl _ => exact OkP.of rfl rfl
  | inr _ => exact hr.elim
theorem sameAll_refl (l : List FaultD) (hl : l.length ≤ 1000000000) (h : ∀ f ∈ l, f.2.2.2.2.2.1.length ≤ 1000000000) : folioref01_SameAll l l = some true := by
 unfold folioref01_SameAll
 simp only [int_refl, cond_false]
 refine OkP.eq ?_
 refine OkP.bind (Q := fun r => match r with | .inl _ => True | .inr _ => False) ?_ fun r hr => ?_
 ·refine OkP.loop (fun m z => ∃ i : Nat, i + m = l.length ∧ z = (i : Int)) (fun m z hz => ?_) l.length 0 ⟨0, by omega, rfl⟩
  obtain ⟨i, hi, rfl⟩ := hz
  by_cases hlt : i < l.length
  ·have hg : l[i]? = some l[i] := List.getElem?_eq_getElem hlt
   have hb : decide ((i : Int) < ((List.length l : Nat) : Int)) = true := by simp; omega
   simp only [hb, cond_true, idx_nat, hg, Option.bind_some, same_refl _ (h _ (List.getElem_mem hlt)), Bool.not_true, cond_false]
   exact OkP.of rfl ⟨m - 1, by omega, i + 1, by omega, wrapS (by omega)⟩
  ·have hb : decide ((i : Int) < ((List.length l : Nat) : Int)) = false := by simp; omega
   simp only [hb, cond_false]
   exact OkP.of rfl trivial
 ·cases r with
  | inl _ => exact OkP.of rfl rfl
  | inr _ => exact hr.elim
structure FR (src : Prop) (p : List StepD) (a b : FaultD) : Prop where
 code : b.1 = a.1
 line : b.2.2.1 = a.2.2.1
 col : b.2.2.2.1 = a.2.2.2.1
 word : b.2.2.2.2.1 = a.2.2.2.2.1
 trail : b.2.2.2.2.2.1 = p ++ a.2.2.2.2.2.1
 source : src → b.2.1 = a.2.1
mutual
theorem gath_rel {src : Prop} {p : List StepD} : ∀ (v : Vw) (w w' : WayD), w'.2.2.1 = p ++ w.2.2.1 → (src → w'.1 = w.1 ∧ w'.2.1 = w.2.1) → All2 (FR src p) (gathV v w) (gathV v w')
 | .nil, _, _, _, _ => .nil
 | .new c s l o wd, w, w', h1, h2 => .cons ⟨rfl, rfl, rfl, rfl, h1, fun h => by obtain ⟨a, b⟩ := h2 h; simp only [mkF]; rw [a, b]⟩ .nil
 | .und la wh k, w, w', h1, h2 => gath_rel k _ _ (by show w'.2.2.1 ++ _ = _; rw [h1, List.append_assoc]) h2
 | .inn s k, w, w', h1, h2 => by
  simp only [gathV]
  refine gath_rel k _ _ ?_ ?_
  ·split <;> split <;> exact h1
  ·intro h
   obtain ⟨a, b⟩ := h2 h
   rw [a]
   split
   ·exact ⟨rfl, rfl⟩
   ·exact ⟨a, b⟩
 | .join ks, w, w', h1, h2 => gath_rels ks w w' h1 h2
 | .plain _, _, _, _, _ => .nil
 | .wrap _ k, w, w', h1, h2 => gath_rel k w w' h1 h2
 | .many _ ks, w, w', h1, h2 => gath_rels ks w w' h1 h2
theorem gath_rels {src : Prop} {p : List StepD} : ∀ (l : List Vw) (w w' : WayD), w'.2.2.1 = p ++ w.2.2.1 → (src → w'.1 = w.1 ∧ w'.2.1 = w.2.1) → All2 (FR src p) (gathVs l w) (gathVs l w')
 | [], _, _, _, _ => .nil
 | v :: r, w, w', h1, h2 => (gath_rel v w w' h1 h2).append (gath_rels r w w' h1 h2)
end
mutual
theorem gath_trail : ∀ (v : Vw) (d n : Nat) (w : WayD), Deep d n v → ∀ f ∈ gathV v w, f.2.2.2.2.2.1.length ≤ w.2.2.1.length + d
 | .nil, _, _, _, _ => fun f hf => by cases hf
 | .new c s l o wd, d, n, w, _ => fun f hf => by
  have : f = mkF w c s l o wd := by simpa [gathV] using hf
  subst this
  exact Nat.le_add_right _ _
 | .und la wh k, d, n, w, h => fun f hf => by
  have h1 := gath_trail k (d - 1) n _ h.2 f hf
  have h2 := h.1
  simp only [List.length_append, List.length_cons, List.length_nil] at h1
  omega
 | .inn s k, d, n, w, h => fun f hf => by
  have h1 := gath_trail k (d - 1) n _ h.2 f hf
  have h2 := h.1
  have h3 : (if w.1 = 0 then ((1, (s, w.2.2)) : WayD) else w).2.2.1.length = w.2.2.1.length := by split <;> rfl
  omega
 | .join ks, d, n, w, h => fun f hf => by
  have h1 := gaths_trail ks (d - 1) n w h.2.2 f hf
  omega
 | .plain _, _, _, _, _ => fun f hf => by cases hf
 | .wrap _ k, d, n, w, h => fun f hf => by
  have h1 := gath_trail k (d - 1) n w h.2 f hf
  omega
 | .many _ ks, d, n, w, h => fun f hf => by
  have h1 := gaths_trail ks (d - 1) n w h.2.2 f hf
  omega
theorem gaths_trail : ∀ (l : List Vw) (d n : Nat) (w : WayD), Deeps d n l → ∀ f ∈ gathVs l w, f.2.2.2.2.2.1.length ≤ w.2.2.1.length + d
 | [], _, _, _, _ => fun f hf => by cases hf
 | v :: r, d, n, w, h => fun f hf => by
  obtain ⟨a, h1, h2, h3⟩ := h
  rcases List.mem_append.1 hf with hf | hf
  ·exact gath_trail v d a w h2 f hf
  ·exact gaths_trail r d _ w h3 f hf
end
theorem gathVs_filter (w : WayD) : ∀ l : List Vw, gathVs (l.filter fun v => !v.isNil) w = gathVs l w
 | [] => rfl
 | v :: r => by
  cases hn : v.isNil with
  | true =>
   rw [List.filter_cons_of_neg (by simp [hn]), gathVs_filter w r]
   have : gathV v w = [] := by cases v <;> first | rfl | cases hn
   simp [gathVs, this]
  | false =>
   rw [List.filter_cons_of_pos (by simp [hn])]
   simp only [gathVs, gathVs_filter w r]
theorem gath_join (w : WayD) (l : List Vw) : gathV (joinV l) w = gathVs l w := by
 rw [← gathVs_filter]
 unfold joinV
 split
 ·rename_i h
  rw [h]
  rfl
 ·rfl
end Go.Fn
/- Chapter 1, plainly: codes and faults. -/
namespace Go.Fn
open Go Go.Lf Go.Eng Go.Proofs
mutual
theorem has_gath (c : Int) : ∀ (v : Vw) (w : WayD), (gathV v w).any (fun f => decide (f.1 = c)) = hasV c v
 | .nil, _ => rfl
 | .new k s l o wd, w => by simp [gathV, hasV, mkF]
 | .und la wh k, w => by simp only [gathV, hasV]; exact has_gath c k _
 | .inn s k, w => by simp only [gathV, hasV]; exact has_gath c k _
 | .join ks, w => by simp only [gathV, hasV]; exact hass_gath c ks _
 | .plain _, _ => rfl
 | .wrap _ k, w => by simp only [gathV, hasV]; exact has_gath c k _
 | .many _ ks, w => by simp only [gathV, hasV]; exact hass_gath c ks _
theorem hass_gath (c : Int) : ∀ (l : List Vw) (w : WayD), (gathVs l w).any (fun f => decide (f.1 = c)) = hasVs c l
 | [], _ => rfl
 | v :: r, w => by simp only [gathVs, hasVs, List.any_append, has_gath c v w, hass_gath c r w]
end
end Go.Fn
/- Chapter 1, plainly: the document's answers: which errors are nil, what is within. -/
namespace Go.Lf
open Go
theorem OkP.range2 {α σ κ : Type} {may : Prop} {B : σ × Int → Option ((σ × Int) ⊕ κ)} {Q : κ → Prop} (l : List α) (I : Nat → σ → Prop) (hstep : ∀ (i : Nat) x s, l[i]? = Option.some x → I i s → OkP may (B (s, (i : Int))) fun d => match d with | .inl z => z.2 = ((i + 1 : Nat) : Int) ∧ I (i + 1) z.1 | .inr k => Q k)
  (hend : ∀ s, I l.length s → OkP may (B (s, (l.length : Int))) fun d => match d with | .inl _ => False | .inr k => Q k) {s : σ} (h0 : I 0 s) : OkP may (loopC B (s, (0 : Int))) Q := by
 refine OkP.loop (fun n z => ∃ i : Nat, i + n = l.length ∧ z.2 = (i : Int) ∧ I i z.1) (fun n z hz => ?_) l.length (s, 0) ⟨0, by omega, rfl, h0⟩
 obtain ⟨i, hi, hz1, hz2⟩ := hz
 obtain ⟨z1, z2⟩ := z
 simp only at hz1 hz2
 subst hz1
 by_cases hlt : i < l.length
 ·refine (hstep i l[i] z1 (List.getElem?_eq_getElem hlt) hz2).imp id fun d hd => ?_
  cases d with
  | inl z => exact ⟨n - 1, by omega, i + 1, by omega, hd.1, hd.2⟩
  | inr k => exact hd
 ·have : i = l.length := by omega
  subst this
  refine (hend z1 hz2).imp id fun d hd => ?_
  cases d with
  | inl z => exact hd.elim
  | inr k => exact hd
end Go.Lf
namespace Go.Fn
open Go Go.Lf Go.Eng Go.Proofs
structure FitL (L : List NodeD) (tx : Nat → Int) : Prop where
 len : L.length ≤ 200
 one : ∀ i, i < L.length → Fit1 L tx i
def vAt (L : List NodeD) (k : Int) : Vw := (Vs L).getD k.toNat .nil
theorem vAt_get {L : List NodeD} {tx : Nat → Int} (hL : FitL L tx) {i : Nat} {n : NodeD} (h : L[i]? = some n) : vAt L (i : Int) = mkV n (kidV (Vs L) n) := by
 have hlt := (List.getElem?_eq_some_iff.1 h).1
 have h1 := Vs_get L h ((hL.one i hlt).kid n h)
 show (Vs L).getD i .nil = _
 rw [List.getD_eq_getElem?_getD, h1]
 rfl
def oneB (n : NodeD) : Bool := decide (n.1 = 1) || (decide (n.1 = 2) || decide (n.1 = 5))
def noneB (n : NodeD) : Bool := decide (n.1 = 0) || (decide (n.1 = 4) || decide (n.1 = 7))
def kidI (L : List NodeD) (n : NodeD) : List Int := bif noneB n then [] else bif oneB n then (match nKids n with | [] => [] | k :: _ => bif (vAt L k).isNil then [] else [k]) else (nKids n).filter fun k => !(vAt L k).isNil
theorem bind_some_id {α : Type} (x : Option α) : (x.bind fun r => some r) = x := by cases x <;> rfl
theorem kids_none (self : List NodeD × Int → Option Bool) {L : List NodeD} {i : Nat} {n : NodeD} (hn : L[i]? = some n) (h : noneB n = true) : folioref01_kidsP self L (i : Int) = some [] := by
 unfold folioref01_kidsP
 simp only [idx_nat, hn, Option.bind_some]
 unfold noneB at h
 by_cases h0 : n.1 = 0
 ·simp only [h0, decide_true, Bool.not_true, cond_false, cond_true, Option.bind_some]
 by_cases h4 : n.1 = 4
 ·simp only [h4, decide_true, Bool.not_true, cond_false, cond_true, Option.bind_some, show decide ((4 : Int) = 0) = false from rfl, Bool.not_false]
 have h7 : n.1 = 7 := by simpa [h0, h4] using h
 simp only [h7, decide_true, cond_true, Option.bind_some, show decide ((7 : Int) = 0) = false from rfl, show decide ((7 : Int) = 4) = false from rfl, Bool.not_false]
theorem kids_some (self : List NodeD × Int → Option Bool) {L : List NodeD} {i : Nat} {n : NodeD} (hn : L[i]? = some n) (h : noneB n = false) :
  folioref01_kidsP self L (i : Int) = (Go.Lf.loopC (σ := (List (Int)) × (Int)) (κ := List (Int)) (fun z10 =>
   bif (decide (z10.2 < (((List.length (nKids n)) : Nat) : Int))) then (((Go.Lf.idx (nKids n) z10.2)).bind fun r11 =>
    (bif oneB n then some ((decide ((0 : Int) < (((List.length z10.1) : Nat) : Int))), z10.1)
     else some (false, z10.1)).bind fun r12 =>
    bif r12.1 then some (.inl r12.2)
    else (bif (decide ((0 : Int) ≤ r11)) then bif (decide (r11 < (i : Int))) then ((self (L, r11))).bind fun r13 =>
     some ((!r13), r12.2)
     else some (false, r12.2)
     else some (false, r12.2)).bind fun r14 =>
    bif r14.1 then ((Go.Lf.app (8 : Nat) r14.2 (r11 :: ([] : List (Int))))).bind fun r15 =>
    some (.inr r15)
    else bif oneB n then some (.inl r14.2)
    else some (.inr r14.2) : Option ((List (Int)) ⊕ (List (Int)))).bind fun r16 =>
   Go.Lf.onSum r16 (fun a17 =>
   some (.inr a17)) (fun b18 =>
   some (.inl (b18, (Go.IntKind.wrap .i64 (z10.2 + (1 : Int))))))
   else some (.inr z10.1)) ([], (0 : Int)) : Option (List (Int))) := by
 unfold noneB at h
 simp only [Bool.or_eq_false_iff, decide_eq_false_iff_not] at h
 obtain ⟨h0, h4, h7⟩ := h
 unfold folioref01_kidsP
 simp only [idx_nat, hn, Option.bind_some, h0, h4, h7, decide_false, Bool.not_false, cond_true, cond_false]
 have hone : (bif (!(decide ((n.1 : Int) = (1 : Int)))) then bif (!(decide ((n.1 : Int) = (2 : Int)))) then some (([] : List Int), (decide ((n.1 : Int) = (5 : Int)))) else some ([], true) else some ([], true)) = some ([], oneB n) := by
  unfold oneB
  by_cases h1 : n.1 = 1 <;> by_cases h2 : n.1 = 2 <;> simp [h1, h2]
 rw [hone]
 simp only [Option.bind_some]
 exact bind_some_id _
theorem kids_ok {L : List NodeD} {tx : Nat → Int} (hL : FitL L tx) {may : Prop} (self : List NodeD × Int → Option Bool) {i : Nat} {n : NodeD} (hn : L[i]? = some n) (hs : ∀ k : Int, 0 ≤ k → k < i → OkP may (self (L, k)) (· = (vAt L k).isNil)) :
  OkP may (folioref01_kidsP self L (i : Int)) (· = kidI L n) := by
 have hlt := (List.getElem?_eq_some_iff.1 hn).1
 have hkid := (hL.one i hlt).kid n hn
 have hnum := (hL.one i hlt).num n hn
 unfold kidI
 cases h0 : noneB n with
 | true => exact OkP.of (kids_none self hn h0) rfl
 | false =>
 rw [kids_some self hn h0, cond_false]
 cases h1 : oneB n with
 | true =>
  simp only [cond_true]
  cases hk : nKids n with
  | nil =>
   rw [loopC_step]
   exact OkP.of rfl rfl
  | cons k r =>
   have hkk := hkid k (by rw [hk]; exact List.mem_cons_self)
   have e0 : decide ((0 : Int) ≤ k) = true := by simp [hkk.1]
   have e1 : decide (k < (i : Int)) = true := by simp [hkk.2]
   have hb : decide ((0 : Int) < ((List.length (k :: r) : Nat) : Int)) = true := by simp
   rw [loopC_step]
   have hz : idx (k :: r) (0 : Int) = some k := rfl
   simp only [hb, cond_true, hz, Option.bind_some, List.length_nil, show decide ((0 : Int) < ((0 : Nat) : Int)) = false from rfl, cond_false, e0, e1]
   refine OkP.bind (OkP.bind (Q := fun x => x = bif (vAt L k).isNil then (Sum.inl [] : Sum (List Int) (List Int)) else .inr [k]) (OkP.bind (OkP.bind (hs k hkk.1 hkk.2) fun b hb => OkP.of (Q := fun x : Bool × List Int => x = (!(vAt L k).isNil, [])) rfl (by rw [hb])) fun x hx => ?_) fun x hx => ?_) fun x hx => hx
   ·subst hx
    cases (vAt L k).isNil with
    | true => exact OkP.of rfl rfl
    | false =>
     simp only [Bool.not_false, cond_true]
     rw [app_of (by simp)]
     exact OkP.of rfl rfl
   ·subst hx
    cases (vAt L k).isNil with
    | true => exact OkP.of rfl (OkP.of rfl rfl)
    | false =>
     refine OkP.of rfl ?_
     have e3 : IntKind.wrap .i64 ((0 : Int) + (1 : Int)) = 1 := wrap64 (by omega) (by omega)
     show OkP may (loopC _ ([k], IntKind.wrap .i64 ((0 : Int) + (1 : Int)))) _
     rw [e3, loopC_step]
     cases r with
     | nil => exact OkP.of rfl rfl
     | cons k2 r2 =>
      have hb2 : decide ((1 : Int) < ((List.length (k :: k2 :: r2) : Nat) : Int)) = true := by simp; omega
      have hz2 : idx (k :: k2 :: r2) (1 : Int) = some k2 := rfl
      simp only [cond_true, hz2, Option.bind_some, List.length_cons, List.length_nil, show decide ((0 : Int) < ((0 + 1 : Nat) : Int)) = true from rfl, onSum]
      generalize decide ((1 : Int) < _) = bb
      cases bb <;> exact OkP.of rfl rfl
 | false =>
  simp only [cond_false]
  refine OkP.range2 (nKids n) (fun j s => s = ((nKids n).take j).filter fun k => !(vAt L k).isNil) (fun j k s hj hI => ?_) (fun s hI => ?_) rfl
  ·subst hI
   have hkk := hkid k (List.mem_of_getElem? hj)
   have hjl := (List.getElem?_eq_some_iff.1 hj).1
   have e0 : decide ((0 : Int) ≤ k) = true := by simp [hkk.1]
   have e1 : decide (k < (i : Int)) = true := by simp [hkk.2]
   have hb : decide ((j : Int) < ((List.length (nKids n) : Nat) : Int)) = true := by simp; omega
   have hf : (((nKids n).take j).filter fun k => !(vAt L k).isNil).length ≤ j := Nat.le_trans (List.length_filter_le _ _) (by rw [List.length_take]; omega)
   have ht : (nKids n).take (j + 1) = (nKids n).take j ++ [k] := by rw [List.take_add_one, hj]; rfl
   simp only [hb, cond_true, idx_nat, hj, Option.bind_some, cond_false, e0, e1]
   refine OkP.bind (Q := fun x => x = (Sum.inr (((nKids n).take (j + 1)).filter fun k => !(vAt L k).isNil) : Sum (List Int) (List Int))) (OkP.bind (OkP.bind (hs k hkk.1 hkk.2) fun b hb => OkP.of (Q := fun x : Bool × List Int => x = (!(vAt L k).isNil, ((nKids n).take j).filter fun k => !(vAt L k).isNil)) rfl (by rw [hb])) fun x hx => ?_) fun x hx => ?_
   ·subst hx
    cases hv : (vAt L k).isNil with
    | true =>
     refine OkP.of rfl ?_
     rw [ht, List.filter_append]
     simp [hv]
    | false =>
     simp only [Bool.not_false, cond_true]
     rw [app_of (by simp; omega)]
     refine OkP.of rfl ?_
     rw [ht, List.filter_append]
     simp [hv]
   ·subst hx
    exact OkP.of rfl ⟨wrapS (by omega), rfl⟩
  ·subst hI
   simp only [Int.lt_irrefl, decide_false, cond_false]
   refine OkP.of rfl ?_
   rw [List.take_length]
theorem firstV_kid {L : List NodeD} {n : NodeD} : firstV (kidV (Vs L) n) = match nKids n with | [] => .nil | k :: _ => vAt L k := by
 unfold kidV
 cases nKids n <;> rfl
theorem joinV_nil (ks : List Vw) : (joinV ks).isNil = (ks.filter fun v => !v.isNil).isEmpty := by
 unfold joinV
 cases ks.filter fun v => !v.isNil <;> rfl
theorem kidV_filter {L : List NodeD} {n : NodeD} : (kidV (Vs L) n).filter (fun v => !v.isNil) = ((nKids n).filter fun k => !(vAt L k).isNil).map (vAt L) := by
 unfold kidV
 rw [List.filter_map]
 rfl
theorem nilN_ok {L : List NodeD} {tx : Nat → Int} (hL : FitL L tx) : ∀ (m : Nat) (k : Int), 0 ≤ k → k < L.length → OkP (m ≤ k.toNat) (folioref01_NilN m (L, k)) (· = (vAt L k).isNil) := by
 intro m
 induction m with
 | zero => exact fun k h0 h1 => .inr ⟨Nat.zero_le _, rfl⟩
 | succ m ih =>
  intro k h0 h1
  obtain ⟨i, rfl⟩ : ∃ i : Nat, k = (i : Int) := ⟨k.toNat, by omega⟩
  have hi : i < L.length := by omega
  obtain ⟨n, hn⟩ : ∃ n, L[i]? = some n := ⟨L[i], List.getElem?_eq_getElem hi⟩
  have hself : ∀ k : Int, 0 ≤ k → k < i → OkP (m + 1 ≤ i) (folioref01_NilN m (L, k)) (· = (vAt L k).isNil) := fun k h2 h3 => (ih k h2 (by omega)).imp (fun h => by omega) fun _ h => h
  have hkid := (hL.one i hi).kid n hn
  show OkP (m + 1 ≤ i) (folioref01_NilB (folioref01_NilN m) L (i : Int)) _
  unfold folioref01_NilB
  have e0 : decide ((i : Int) < 0) = false := by simp
  have e1 : decide (((List.length L : Nat) : Int) ≤ (i : Int)) = false := by simp; omega
  simp only [e0, e1, Bool.not_false, cond_true, cond_false, Option.bind_some, idx_nat, hn]
  rw [vAt_get hL hn]
  unfold mkV
  by_cases k0 : n.1 = 0
  ·simp only [k0, decide_true, cond_true, if_true]
   refine OkP.of rfl ?_
   by_cases hc : nCode n = 0
   ·simp only [hc, decide_true, if_true]; rfl
   ·simp only [hc, decide_false, if_false]; rfl
  have one : OkP (m + 1 ≤ i) ((bif (!(decide (((((List.length (nKids n)) : Nat) : Int) : Int) = (0 : Int)))) then ((Go.Lf.idx (nKids n) (0 : Int))).bind fun r4 =>
    bif (!(decide ((i : Int) ≤ r4))) then ((Go.Lf.idx (nKids n) (0 : Int))).bind fun r5 =>
    ((folioref01_NilN m (L, r5))).bind fun r6 =>
    some r6
    else some true
    else some true).bind fun r7 => some r7) (· = (firstV (kidV (Vs L) n)).isNil) := by
   rw [firstV_kid]
   cases hk : nKids n with
   | nil => exact OkP.of rfl rfl
   | cons k r =>
    have hkk := hkid k (by rw [hk]; exact List.mem_cons_self)
    have e2 : decide (((((List.length (k :: r)) : Nat) : Int) : Int) = (0 : Int)) = false := decide_eq_false (by simp; omega)
    have e3 : decide ((i : Int) ≤ k) = false := by simp; omega
    have e4 : idx (k :: r) (0 : Int) = some k := rfl
    simp only [e2, e3, e4, Bool.not_false, cond_true, Option.bind_some]
    exact OkP.bind (OkP.bind (hself k hkk.1 hkk.2) fun b hb => OkP.of (Q := fun x => x = (vAt L k).isNil) rfl hb) fun b hb => OkP.of rfl hb
  by_cases k1 : n.1 = 1
  ·simp only [k1, decide_true, cond_true, if_true, Option.bind_some, show ((1 : Int) = 0) = False from by simp, if_false]
   refine one.imp id fun b hb => hb.trans ?_
   cases (firstV (kidV (Vs L) n)) <;> rfl
  by_cases k2 : n.1 = 2
  ·simp only [k2, decide_true, if_true, show ((2 : Int) = 0) = False from by simp, show ((2 : Int) = 1) = False from by simp, if_false]
   refine one.imp id fun b hb => hb.trans ?_
   cases (firstV (kidV (Vs L) n)) <;> rfl
  by_cases k3 : n.1 = 3
  ·simp only [k3, decide_true, cond_true, if_true, show ((3 : Int) = 0) = False from by simp, show ((3 : Int) = 1) = False from by simp, show ((3 : Int) = 2) = False from by simp, if_false]
   refine OkP.bind (kids_ok hL _ hn hself) fun r hr => OkP.of rfl ?_
   subst hr
   rw [joinV_nil, kidV_filter]
   unfold kidI noneB oneB
   simp only [k3, show decide ((3 : Int) = 0) = false from rfl, show decide ((3 : Int) = 1) = false from rfl, show decide ((3 : Int) = 2) = false from rfl, show decide ((3 : Int) = 4) = false from rfl, show decide ((3 : Int) = 5) = false from rfl, show decide ((3 : Int) = 7) = false from rfl, Bool.or_false, cond_false]
   cases (nKids n).filter fun k => !(vAt L k).isNil with
   | nil => rfl
   | cons a b => exact decide_eq_false (by simp; omega)
  by_cases k4 : n.1 = 4
  ·simp only [k4, decide_true, cond_true, if_true, Option.bind_some, show ((4 : Int) = 0) = False from by simp, show ((4 : Int) = 1) = False from by simp, show ((4 : Int) = 2) = False from by simp, show ((4 : Int) = 3) = False from by simp, if_false]
   exact OkP.of rfl rfl
  by_cases k5 : n.1 = 5
  ·simp only [k5, decide_true, cond_true, if_true, show ((5 : Int) = 0) = False from by simp, show ((5 : Int) = 1) = False from by simp, show ((5 : Int) = 2) = False from by simp, show ((5 : Int) = 3) = False from by simp, show ((5 : Int) = 4) = False from by simp, if_false]
   exact OkP.of rfl rfl
  simp only [k0, k1, k2, k3, k4, k5, decide_false, cond_false, if_false, Option.bind_some]
  by_cases k6 : n.1 = 6
  ·simp only [k6, decide_true, cond_true, if_true]
   exact OkP.of rfl rfl
  ·simp only [k6, decide_false, cond_false, if_false]
   exact OkP.of rfl rfl
theorem nil_ok {L : List NodeD} {tx : Nat → Int} (hL : FitL L tx) {k : Int} (h0 : 0 ≤ k) (h1 : k < L.length) : folioref01_Nil L k = some (vAt L k).isNil := supC_ok k.toNat fun m => nilN_ok hL m k h0 h1
theorem kidsR_ok {L : List NodeD} {tx : Nat → Int} (hL : FitL L tx) {i : Nat} {n : NodeD} (hn : L[i]? = some n) : folioref01_kids L (i : Int) = some (kidI L n) := by
 have hlt := (List.getElem?_eq_some_iff.1 hn).1
 exact (kids_ok (may := False) hL _ hn fun k h0 h1 => OkP.of (nil_ok hL h0 (by omega)) rfl).eq
end Go.Fn
/- Chapter 1, plainly: how long lists of faults are. -/
namespace Go.Fn
open Go Go.Lf Go.Eng Go.Proofs
theorem allV_len {v : Vw} {d n : Nat} (hd : Deep d n v) : (allV v).length ≤ n + 1 := by
 unfold allV
 cases v.isNil with
 | true => simp
 | false =>
  have := gathV_len v d n way0 hd
  simp only [cond_false]
  split
  ·simp
  ·omega
theorem bareV_len : ∀ (v : Vw) (d n : Nat), Deep d n v → (bareV v).length ≤ d
 | .nil, _, _, _ => by simp [bareV]
 | .new .., _, _, _ => by simp [bareV]
 | .und la wh k, d, n, h => by have := bareV_len k (d - 1) n h.2; have := h.1; simp only [bareV, List.length_cons]; omega
 | .inn s k, d, n, h => by have := bareV_len k (d - 1) n h.2; simp only [bareV]; omega
 | .join .., _, _, _ => by simp [bareV]
 | .plain .., _, _, _ => by simp [bareV]
 | .wrap .., _, _, _ => by simp [bareV]
 | .many .., _, _, _ => by simp [bareV]
theorem allV_trail {v : Vw} {d n : Nat} (hd : Deep d n v) : ∀ f ∈ allV v, f.2.2.2.2.2.1.length ≤ d := by
 unfold allV
 intro f hf
 cases hn : v.isNil with
 | true => rw [hn] at hf; cases hf
 | false =>
  rw [hn, cond_false] at hf
  split at hf
  ·have : f = (10, (0, (0, (0, ([], (bareV v, ())))))) := by simpa using hf
   subst this
   exact bareV_len v d n hd
  ·have := gath_trail v d n way0 hd f hf
   have e : way0.2.2.1.length = 0 := rfl
   omega
theorem vAt_get0 {L : List NodeD} {i : Nat} {v : Vw} (h : (Vs L)[i]? = some v) : vAt L (i : Int) = v := by
 show (Vs L).getD i .nil = v
 rw [List.getD_eq_getElem?_getD, h]
 rfl
end Go.Fn
/- Chapter 1, plainly: what the program's methods say is the text. -/
namespace Go.Fn
open Go Go.Lf Go.Eng Go.Proofs
theorem itoa_eq {n : Int} (h : I64 n) : strconv_Itoa n = some (Lib.itoa n) := if_pos h
theorem iv_new (self : Er → Option (List UInt8)) (c s l o : Int) (w : List UInt8) : ivF (errR self) (enc (.new c s l o w)) = fault_Error__Error ((1, ((c, (s, (l, (o, (w, (([] : List (List UInt8 × (Int × Unit))), ())))))), ())) : ErrS.den) := rfl
theorem iv_und (self : Er → Option (List UInt8)) (la : List UInt8) (wh : Int) (k : Vw) : ivF (errR self) (enc (.und la wh k)) = fault_under__ErrorP self ((la, (wh, ())), (enc k, ())) := rfl
theorem iv_inn (self : Er → Option (List UInt8)) (s : Int) (k : Vw) : ivF (errR self) (enc (.inn s k)) = fault_in__ErrorP self (s, (enc k, ())) := rfl
theorem iv_join (self : Er → Option (List UInt8)) (ks : List Vw) : ivF (errR self) (enc (.join ks)) = fault_joined__ErrorP self (encs ks, ()) := rfl
theorem iv_plain (self : Er → Option (List UInt8)) (t : List UInt8) : ivF (errR self) (enc (.plain t)) = some t := rfl
theorem iv_wrap (self : Er → Option (List UInt8)) (t : List UInt8) (k : Vw) : ivF (errR self) (enc (.wrap t k)) = some t := rfl
theorem iv_many (self : Er → Option (List UInt8)) (t : List UInt8) (ks : List Vw) : ivF (errR self) (enc (.many t ks)) = some t := rfl
theorem join_loop {self : Er → Option (List UInt8)} (ks : List Vw) (hl : ks.length ≤ 1099511627776) (h : ∀ v ∈ ks, self (enc v) = some (vtext v)) (hj : (joinL [59, 32] (vtexts ks)).length ≤ 1099511627776) : fault_joined__ErrorP self (encs ks, ()) = some (joinL [59, 32] (vtexts ks)) := by
 unfold fault_joined__ErrorP
 refine OkP.eq ?_
 refine OkP.bind (Q := fun r => r = vtexts ks) ?_ fun r hr => ?_
 ·refine OkP.range (encs ks) (fun i s => s = vtexts (ks.take i)) (fun i x s hx hs => ?_) (fun s hs => ?_) rfl
  ·subst hs
   rw [encs_map, List.getElem?_map] at hx
   obtain ⟨v, hv, rfl⟩ := Option.map_eq_some_iff.1 hx
   have hlt := (List.getElem?_eq_some_iff.1 hv).1
   have h1 : (encs ks)[i]? = some (enc v) := by rw [encs_map, List.getElem?_map, hv]; rfl
   have h2 : vtexts (ks.take (i + 1)) = vtexts (ks.take i) ++ [vtext v] := by
    rw [vtexts_map, vtexts_map, List.take_add_one, hv, List.map_append]; rfl
   have hlen : (encs ks).length = ks.length := by rw [encs_map, List.length_map]
   have h3 : (vtexts (ks.take i)).length = i := by rw [vtexts_map, List.length_map, List.length_take]; omega
   have hb : decide ((i : Int) < ((encs ks).length : Int)) = true := by simp [hlen]; omega
   simp only [hb, cond_true, idx_nat, h1, Option.bind_some, h v (List.mem_of_getElem? hv)]
   rw [app_of (by simp [h3]; omega)]
   exact OkP.of rfl ⟨wrapS (by omega), h2.symm⟩
  ·subst hs
   have hlen : (encs ks).length = ks.length := by rw [encs_map, List.length_map]
   simp only [Int.lt_irrefl, decide_false, cond_false]
   refine OkP.of rfl ?_
   rw [hlen, List.take_length]
 ·subst hr
  have : strings_Join (vtexts ks, [59, 32]) = some (joinL [59, 32] (vtexts ks)) := if_pos ⟨by rw [vtexts_map, List.length_map]; exact hl, hj⟩
  refine OkP.of ?_ rfl
  rw [this]
  rfl
mutual
theorem errN_enc : ∀ (m d b : Nat) (v : Vw), Good d b v → v.isNil = false → d ≤ m → b ≤ 1099511627776 → errN m (enc v) = some (vtext v)
 | _, _, _, .nil, _, h, _, _ => by cases h
 | 0, d, b, .new .., h, _, hm, _ => by have := h.1; omega
 | 0, d, b, .und .., h, _, hm, _ => by have := h.1; omega
 | 0, d, b, .inn .., h, _, hm, _ => by have := h.1; omega
 | 0, d, b, .join .., h, _, hm, _ => by have := h.1; omega
 | 0, d, b, .plain .., h, _, hm, _ => by have := h.1; omega
 | 0, d, b, .wrap .., h, _, hm, _ => by have := h.1; omega
 | 0, d, b, .many .., h, _, hm, _ => by have := h.1; omega
 | m + 1, d, b, .new c s l o w, h, _, _, hb => by
  obtain ⟨_, ⟨h1, h2, h3, h4⟩, h5⟩ := h
  unfold errN
  rw [iv_new]
  exact if_pos ⟨rfl, ⟨h1, h2, h3, h4⟩, by show w.length ≤ _; omega, rfl⟩
 | m + 1, d, b, .und la wh k, h, _, hm, hb => by
  have hle := vtext_le d b _ h
  obtain ⟨_, h1, h2, h4, h3⟩ := h
  unfold errN
  rw [iv_und]
  unfold fault_under__ErrorP
  have h5 := errN_enc m _ _ k h3 h4 (by omega) (by omega)
  have h6 := Lib.itoa_length_le wh h1.1 h1.2
  simp only [vtext, List.length_append, List.length_cons, List.length_nil] at hle
  rw [cat_of (by simp; omega)]
  simp only [Option.bind_some, itoa_eq h1]
  rw [cat_of (by simp; omega)]
  simp only [Option.bind_some]
  rw [cat_of (by simp; omega)]
  simp only [Option.bind_some, h5]
  rw [cat_of (by simp; omega)]
  simp [vtext]
 | m + 1, d, b, .inn s k, h, _, hm, hb => by
  have hle := vtext_le d b _ h
  obtain ⟨_, h1, h2, h4, h3⟩ := h
  unfold errN
  rw [iv_inn]
  unfold fault_in__ErrorP
  have h5 := errN_enc m _ _ k h3 h4 (by omega) (by omega)
  have h6 := Lib.itoa_length_le s h1.1 h1.2
  simp only [vtext, List.length_append, List.length_cons, List.length_nil] at hle
  simp only [Option.bind_some, itoa_eq h1]
  rw [cat_of (by simp; omega)]
  simp only [Option.bind_some]
  rw [cat_of (by simp; omega)]
  simp only [Option.bind_some, h5]
  rw [cat_of (by simp; omega)]
  simp [vtext]
 | m + 1, d, b, .join ks, h, _, hm, hb => by
  have hle := vtext_le d b _ h
  obtain ⟨_, h1, h2⟩ := h
  unfold errN
  rw [iv_join]
  have h3 := (vtexts_le _ _ ks h2).2
  exact join_loop ks (by omega) (errN_encs m _ _ ks h2 (by omega) (by omega)) (by simp only [vtext] at hle; omega)
 | m + 1, d, b, .plain t, h, _, _, _ => by unfold errN; rw [iv_plain]; rfl
 | m + 1, d, b, .wrap t k, h, _, _, _ => by unfold errN; rw [iv_wrap]; rfl
 | m + 1, d, b, .many t ks, h, _, _, _ => by unfold errN; rw [iv_many]; rfl
theorem errN_encs : ∀ (m d b : Nat) (l : List Vw), Goods d b l → d ≤ m → b ≤ 1099511627776 → ∀ v ∈ l, errN m (enc v) = some (vtext v)
 | _, _, _, [], _, _, _ => fun v hv => by cases hv
 | m, d, b, x :: r, h, hm, hb => fun v hv => by
  obtain ⟨h0, c, h1, h2, h3⟩ := h
  rcases List.mem_cons.1 hv with e | hv
  ·rw [e]
   exact errN_enc m d c x h2 h0 hm (by omega)
  ·exact errN_encs m d _ r h3 hm (by omega) v hv
end
end Go.Fn
/- Chapter 1, plainly: the document's texts. -/
namespace Go.Fn
open Go Go.Lf Go.Eng Go.Proofs
mutual
theorem Good.mono : ∀ (v : Vw) {d d' b b' : Nat}, d ≤ d' → b ≤ b' → Good d b v → Good d' b' v
 | .nil, _, _, _, _, _, _, _ => trivial
 | .new .., _, _, _, _, hd, hb, h => by obtain ⟨h1, h2, h3⟩ := h; exact ⟨by omega, h2, by omega⟩
 | .und la wh k, _, _, _, _, hd, hb, h => by obtain ⟨h1, h2, h3, h4, h5⟩ := h; exact ⟨by omega, h2, by omega, h4, Good.mono k (by omega) (by omega) h5⟩
 | .inn s k, _, _, _, _, hd, hb, h => by obtain ⟨h1, h2, h3, h4, h5⟩ := h; exact ⟨by omega, h2, by omega, h4, Good.mono k (by omega) (by omega) h5⟩
 | .join ks, _, _, _, _, hd, hb, h => by obtain ⟨h1, h2, h3⟩ := h; exact ⟨by omega, by omega, Goods.mono ks (by omega) (by omega) h3⟩
 | .plain t, _, _, _, _, hd, hb, h => by obtain ⟨h1, h2⟩ := h; exact ⟨by omega, by omega⟩
 | .wrap t _, _, _, _, _, hd, hb, h => by obtain ⟨h1, h2⟩ := h; exact ⟨by omega, by omega⟩
 | .many t _, _, _, _, _, hd, hb, h => by obtain ⟨h1, h2⟩ := h; exact ⟨by omega, by omega⟩
theorem Goods.mono : ∀ (l : List Vw) {d d' b b' : Nat}, d ≤ d' → b ≤ b' → Goods d b l → Goods d' b' l
 | [], _, _, _, _, _, _, _ => trivial
 | v :: r, _, _, _, _, hd, hb, h => by
  obtain ⟨h1, c, h2, h3, h4⟩ := h
  exact ⟨h1, c, by omega, Good.mono v hd (Nat.le_refl _) h3, Goods.mono r hd (by omega) h4⟩
end
theorem sumK_pos {f : Nat → Int} : ∀ {l : List Int}, (∀ k ∈ l, 0 ≤ f k.toNat) → 0 ≤ sumK f l
 | [], _ => by simp [sumK]
 | k :: r, h => by
  have h1 := sumK_pos (l := r) fun k hk => h k (List.mem_cons_of_mem _ hk)
  have h2 := h k List.mem_cons_self
  simp only [sumK, List.map_cons, List.sum_cons] at h1 ⊢
  omega
theorem sumK_cons (f : Nat → Int) (k : Int) (r : List Int) : sumK f (k :: r) = f k.toNat + 2 + sumK f r := by simp [sumK]
theorem goods_of {L : List NodeD} {tx : Nat → Int} {d : Nat} : ∀ (ks : List Int) (b : Nat), (∀ k ∈ ks, 0 ≤ tx k.toNat ∧ Good d (2 * (tx k.toNat).toNat) (vAt L k)) → 2 * sumK tx ks ≤ b → Goods d b ((ks.filter fun k => !(vAt L k).isNil).map (vAt L))
 | [], _, _, _ => trivial
 | k :: r, b, h, hb => by
  have h1 := h k List.mem_cons_self
  have hr := fun k hk => h k (List.mem_cons_of_mem _ hk)
  have hp := sumK_pos (f := tx) fun k hk => (hr k hk).1
  rw [sumK_cons] at hb
  cases hn : (vAt L k).isNil with
  | true =>
   rw [List.filter_cons_of_neg (by simp [hn])]
   exact goods_of r b hr (by omega)
  | false =>
   rw [List.filter_cons_of_pos (by simp [hn])]
   exact ⟨hn, 2 * (tx k.toNat).toNat, by omega, h1.2, goods_of r _ hr (by omega)⟩
theorem goodV {L : List NodeD} {tx : Nat → Int} (hL : FitL L tx) (hI : ∀ n ∈ L, NI n) : ∀ (i : Nat), i < L.length → Good (i + 1) (2 * (tx i).toNat) (vAt L (i : Int)) := by
 intro i
 induction i using Nat.strongRecOn with
 | ind i ih =>
 intro hi
 obtain ⟨n, hn⟩ : ∃ n, L[i]? = some n := ⟨L[i], List.getElem?_eq_getElem hi⟩
 have hF := hL.one i hi
 have hkid := hF.kid n hn
 have ht := hF.text n hn
 have hle := hF.le
 obtain ⟨hI1, hI2⟩ := hI n (List.mem_of_getElem? hn)
 have hk : ∀ k ∈ nKids n, 0 ≤ tx k.toNat ∧ Good i (2 * (tx k.toNat).toNat) (vAt L k) := fun k hk => by
  have h1 := hkid k hk
  have h2 := ih k.toNat (by omega) (by omega)
  have e : ((k.toNat : Nat) : Int) = k := by omega
  rw [e] at h2
  exact ⟨(hL.one k.toNat (by omega)).le.1, Good.mono _ (by omega) (Nat.le_refl _) h2⟩
 have hp := sumK_pos (f := tx) fun k h => (hk k h).1
 rw [vAt_get hL hn]
 unfold mkV
 have one : ∀ (la : Nat), (la : Int) ≤ (nLayer n).length → (firstV (kidV (Vs L) n)).isNil = false → 120 + la ≤ 2 * (tx i).toNat ∧ Good i (2 * (tx i).toNat - (120 + la)) (firstV (kidV (Vs L) n)) := fun la hla h0 => by
  refine ⟨by omega, ?_⟩
  rw [firstV_kid] at h0 ⊢
  cases hkk : nKids n with
  | nil => rw [hkk] at h0; cases h0
  | cons k r =>
   have h1 := hk k (by rw [hkk]; exact List.mem_cons_self)
   rw [hkk, sumK_cons] at ht
   have h2 := sumK_pos (f := tx) (l := r) fun k h => (hk k (by rw [hkk]; exact List.mem_cons_of_mem _ h)).1
   exact Good.mono _ (Nat.le_refl _) (by omega) h1.2
 split
 ·split
  ·exact trivial
  ·exact ⟨by omega, hI1, by omega⟩
 split
 ·cases h0 : (firstV (kidV (Vs L) n)).isNil with
  | true => exact trivial
  | false =>
   have := one (nLayer n).length (Int.le_refl _) h0
   exact ⟨by omega, hI2, this.1, h0, this.2⟩
 split
 ·cases h0 : (firstV (kidV (Vs L) n)).isNil with
  | true => exact trivial
  | false =>
   have := one 0 (by omega) h0
   exact ⟨by omega, hI2, by omega, h0, this.2⟩
 split
 ·unfold joinV
  rw [kidV_filter]
  have h1 := goods_of (L := L) (nKids n) (2 * (tx i).toNat - 120) hk (by omega)
  split
  ·exact trivial
  ·exact ⟨by omega, by omega, h1⟩
 split
 ·exact ⟨by omega, by omega⟩
 split
 ·exact ⟨by omega, by omega⟩
 split
 ·exact ⟨by omega, by omega⟩
 ·exact trivial
theorem goodAt {L : List NodeD} {tx : Nat → Int} (hL : FitL L tx) (hI : ∀ n ∈ L, NI n) {k : Int} (h0 : 0 ≤ k) (h1 : k < L.length) : Good 200 2000000 (vAt L k) := by
 have h2 := goodV hL hI k.toNat (by omega)
 have e : ((k.toNat : Nat) : Int) = k := by omega
 rw [e] at h2
 have h3 := (hL.one k.toNat (by omega)).le
 have := hL.len
 exact Good.mono _ (by omega) (by omega) h2
theorem text_le {L : List NodeD} {tx : Nat → Int} (hL : FitL L tx) (hI : ∀ n ∈ L, NI n) {k : Int} (h0 : 0 ≤ k) (h1 : k < L.length) : (vtext (vAt L k)).length ≤ 2000000 := vtext_le _ _ _ (goodAt hL hI h0 h1)
theorem layer_le {L : List NodeD} {tx : Nat → Int} (hL : FitL L tx) {i : Nat} {n : NodeD} (hn : L[i]? = some n) : (nLayer n).length ≤ 1000000 ∧ (nWord n).length ≤ 1000000 := by
 have hi := (List.getElem?_eq_some_iff.1 hn).1
 have hF := hL.one i hi
 have ht := hF.text n hn
 have hle := hF.le
 have hp := sumK_pos (f := tx) (l := nKids n) fun k h => (hL.one k.toNat (by have := hF.kid n hn k h; omega)).le.1
 omega
theorem new_text {n : NodeD} (h : NI n) (hw : (nWord n).length ≤ 1000000) : (((Go.Fn.strconv_Itoa (nCode n))).bind fun r4 =>
 ((Go.Lf.cat ((102 : UInt8) :: ((97 : UInt8) :: ((117 : UInt8) :: ((108 : UInt8) :: ((116 : UInt8) :: ((32 : UInt8) :: ([] : List (UInt8)))))))) r4)).bind fun r5 =>
 ((bif (!(decide ((nSrc n : Int) ≠ (0 : Int)))) then bif (!(decide ((nLine n : Int) ≠ (0 : Int)))) then some ((decide ((nCol n : Int) ≠ (0 : Int))), n.2.1)
   else some (true, n.2.1)
   else some (true, n.2.1)).bind fun r6 =>
  bif r6.1 then ((Go.Fn.strconv_Itoa r6.2.2.1)).bind fun r7 =>
  ((Go.Lf.cat ((32 : UInt8) :: ((97 : UInt8) :: ((116 : UInt8) :: ((32 : UInt8) :: ([] : List (UInt8)))))) r7)).bind fun r8 =>
  ((Go.Lf.cat r8 ((58 : UInt8) :: ([] : List (UInt8))))).bind fun r9 =>
  ((Go.Fn.strconv_Itoa r6.2.2.2.1)).bind fun r10 =>
  ((Go.Lf.cat r9 r10)).bind fun r11 =>
  ((Go.Lf.cat r11 ((58 : UInt8) :: ([] : List (UInt8))))).bind fun r12 =>
  ((Go.Fn.strconv_Itoa r6.2.2.2.2.1)).bind fun r13 =>
  ((Go.Lf.cat r12 r13)).bind fun r14 =>
  ((Go.Lf.cat r5 r14)).bind fun r15 =>
  some (r15, r6.2)
  else some (r5, r6.2)).bind fun r16 =>
 (bif (decide ((r16.2.2.2.2.2.1 : List (UInt8)) ≠ ([] : List (UInt8)))) then ((Go.Lf.cat ((32 : UInt8) :: ([] : List (UInt8))) r16.2.2.2.2.2.1)).bind fun r17 =>
  ((Go.Lf.cat r16.1 r17)).bind fun r18 =>
  some r18
  else some r16.1).bind fun r19 =>
 some r19) = some (errText (nCode n) (nSrc n) (nLine n) (nCol n) (nWord n)) := by
 obtain ⟨⟨h1, h2, h3, h4⟩, _⟩ := h
 have hw' : (n.2.1.2.2.2.2.1).length ≤ 1000000 := hw
 have l1 := Lib.itoa_length_le _ h1.1 h1.2
 have l2 := Lib.itoa_length_le _ h2.1 h2.2
 have l3 := Lib.itoa_length_le _ h3.1 h3.2
 have l4 := Lib.itoa_length_le _ h4.1 h4.2
 rw [itoa_eq h1]
 simp only [Option.bind_some]
 rw [cat_of (by simp; omega)]
 simp only [Option.bind_some]
 have hc : (bif (!(decide ((nSrc n : Int) ≠ (0 : Int)))) then bif (!(decide ((nLine n : Int) ≠ (0 : Int)))) then some ((decide ((nCol n : Int) ≠ (0 : Int))), n.2.1) else some (true, n.2.1) else some (true, n.2.1)) = some (decide (nSrc n ≠ 0 ∨ nLine n ≠ 0 ∨ nCol n ≠ 0), n.2.1) := by
  by_cases a : nSrc n = 0 <;> by_cases b : nLine n = 0 <;> by_cases c : nCol n = 0 <;> simp [a, b, c]
 rw [hc]
 simp only [Option.bind_some]
 rw [show strconv_Itoa n.2.1.2.1 = some (Lib.itoa (nSrc n)) from itoa_eq h2, show strconv_Itoa n.2.1.2.2.1 = some (Lib.itoa (nLine n)) from itoa_eq h3, show strconv_Itoa n.2.1.2.2.2.1 = some (Lib.itoa (nCol n)) from itoa_eq h4]
 simp only [Option.bind_some]
 rw [cat_of (by simp; omega)]
 simp only [Option.bind_some]
 rw [cat_of (by simp; omega)]
 simp only [Option.bind_some]
 rw [cat_of (by simp; omega)]
 simp only [Option.bind_some]
 rw [cat_of (by simp; omega)]
 simp only [Option.bind_some]
 rw [cat_of (by simp; omega)]
 simp only [Option.bind_some]
 rw [cat_of (by simp; omega)]
 simp only [Option.bind_some]
 unfold errText
 cases hd : decide (nSrc n ≠ 0 ∨ nLine n ≠ 0 ∨ nCol n ≠ 0) with
 | true =>
  have hd := of_decide_eq_true hd
  rw [if_pos hd]
  simp only [cond_true, Option.bind_some]
  by_cases hw0 : nWord n = []
  ·have e : decide ((n.2.1.2.2.2.2.1 : List UInt8) ≠ []) = false := decide_eq_false (by simpa using hw0)
   simp only [e, cond_false, Option.bind_some]
   rw [if_neg (by simpa using hw0)]
   simp
  ·have e : decide ((n.2.1.2.2.2.2.1 : List UInt8) ≠ []) = true := decide_eq_true hw0
   simp only [e, cond_true]
   rw [cat_of (by simp; omega)]
   simp only [Option.bind_some]
   rw [cat_of (by simp; omega), if_pos hw0]
   simp
 | false =>
  have hd := of_decide_eq_false hd
  rw [if_neg hd]
  simp only [cond_false, Option.bind_some]
  by_cases hw0 : nWord n = []
  ·have e : decide ((n.2.1.2.2.2.2.1 : List UInt8) ≠ []) = false := decide_eq_false (by simpa using hw0)
   simp only [e, cond_false, Option.bind_some]
   rw [if_neg (by simpa using hw0)]
   simp
  ·have e : decide ((n.2.1.2.2.2.2.1 : List UInt8) ≠ []) = true := decide_eq_true hw0
   simp only [e, cond_true]
   rw [cat_of (by simp; omega)]
   simp only [Option.bind_some]
   rw [cat_of (by simp; omega), if_pos hw0]
   simp
theorem itoa4 (n : Int) (h : I64 n) : (Lib.itoa n).length ≤ 21 := Lib.itoa_length_le n h.1 h.2
set_option maxHeartbeats 1000000 in
theorem textN_ok {L : List NodeD} {tx : Nat → Int} (hL : FitL L tx) (hI : ∀ n ∈ L, NI n) : ∀ (m : Nat) (k : Int), 0 ≤ k → k < L.length → OkP (m ≤ k.toNat) (folioref01_TextN m (L, k)) (· = vtext (vAt L k)) := by
 intro m
 induction m with
 | zero => exact fun k h0 h1 => .inr ⟨Nat.zero_le _, rfl⟩
 | succ m ih =>
  intro k h0 h1
  obtain ⟨i, rfl⟩ : ∃ i : Nat, k = (i : Int) := ⟨k.toNat, by omega⟩
  have hi : i < L.length := by omega
  obtain ⟨n, hn⟩ : ∃ n, L[i]? = some n := ⟨L[i], List.getElem?_eq_getElem hi⟩
  have hself : ∀ k : Int, 0 ≤ k → k < i → OkP (m + 1 ≤ i) (folioref01_TextN m (L, k)) (· = vtext (vAt L k)) := fun k h2 h3 => (ih k h2 (by omega)).imp (fun h => by omega) fun _ h => h
  have hkid := (hL.one i hi).kid n hn
  have hnum := (hL.one i hi).num n hn
  have hni := hI n (List.mem_of_getElem? hn)
  obtain ⟨hla, hwo⟩ := layer_le hL hn
  have hla' : (n.2.2.1).length ≤ 1000000 := hla
  have hkt : ∀ k ∈ nKids n, (vtext (vAt L k)).length ≤ 2000000 := fun k hk => text_le hL hI (hkid k hk).1 (by have := (hkid k hk).2; omega)
  have htot := text_le hL hI h0 h1
  show OkP (m + 1 ≤ i) (folioref01_TextB (folioref01_TextN m) L (i : Int)) _
  unfold folioref01_TextB
  rw [nil_ok hL h0 h1]
  simp only [Option.bind_some]
  cases hnil : (vAt L (i : Int)).isNil with
  | true =>
   refine OkP.of rfl ?_
   cases hv : vAt L (i : Int) <;> rw [hv] at hnil <;> first | rfl | cases hnil
  | false =>
  simp only [cond_false, idx_nat, hn, Option.bind_some, kidsR_ok hL hn]
  rw [vAt_get hL hn] at hnil htot ⊢
  unfold mkV at hnil htot ⊢
  by_cases k0 : n.1 = 0
  ·simp only [k0, decide_true, cond_true, if_true] at hnil htot ⊢
   by_cases hc : nCode n = 0
   ·rw [if_pos hc] at hnil; cases hnil
   ·rw [if_neg hc]
    exact OkP.of (new_text hni hwo) rfl
  have one : oneB n = true → noneB n = false → (firstV (kidV (Vs L) n)).isNil = false → ∃ k, kidI L n = [k] ∧ 0 ≤ k ∧ k < i ∧ firstV (kidV (Vs L) n) = vAt L k ∧ (vtext (vAt L k)).length ≤ 2000000 := fun ho hz hv => by
   rw [firstV_kid] at hv ⊢
   unfold kidI
   rw [ho, hz]
   cases hk : nKids n with
   | nil => rw [hk] at hv; cases hv
   | cons k r =>
    rw [hk] at hv
    have hv : (vAt L k).isNil = false := hv
    have hm : k ∈ nKids n := by rw [hk]; exact List.mem_cons_self
    refine ⟨k, ?_, (hkid k hm).1, (hkid k hm).2, rfl, hkt k hm⟩
    simp only [cond_false, cond_true, hv]
  by_cases k1 : n.1 = 1
  ·simp only [k1, decide_false, decide_true, cond_true, if_true, show ((1 : Int) = 0) = False from by simp, cond_false, if_false] at hnil htot ⊢
   cases hv : (firstV (kidV (Vs L) n)).isNil with
   | true => rw [hv] at hnil; cases hnil
   | false =>
   obtain ⟨k, e1, e2, e3, e4, e5⟩ := one (by simp [oneB, k1]) (by simp [noneB, k1]) hv
   have l1 := itoa4 _ hni.2
   rw [e1, e4, cat_of (by simp; omega)]
   simp only [Option.bind_some, show strconv_Itoa n.2.2.2.1 = some (Lib.itoa (nWhat n)) from itoa_eq hni.2]
   rw [cat_of (by simp; omega)]
   simp only [Option.bind_some]
   rw [cat_of (by simp; omega)]
   simp only [Option.bind_some, show idx [k] (0 : Int) = some k from rfl]
   refine OkP.bind (hself k e2 e3) fun t ht => ?_
   subst ht
   rw [cat_of (by simp; omega)]
   refine OkP.of rfl ?_
   simp [vtext]
  by_cases k2 : n.1 = 2
  ·simp only [k2, decide_false, decide_true, cond_true, if_true, show ((2 : Int) = 0) = False from by simp, show ((2 : Int) = 1) = False from by simp, cond_false, if_false] at hnil htot ⊢
   cases hv : (firstV (kidV (Vs L) n)).isNil with
   | true => rw [hv] at hnil; cases hnil
   | false =>
   obtain ⟨k, e1, e2, e3, e4, e5⟩ := one (by simp [oneB, k2]) (by simp [noneB, k2]) hv
   have l1 := itoa4 _ hni.2
   simp only [Option.bind_some, show strconv_Itoa n.2.2.2.1 = some (Lib.itoa (nWhat n)) from itoa_eq hni.2]
   rw [e1, e4, cat_of (by simp; omega)]
   simp only [Option.bind_some]
   rw [cat_of (by simp; omega)]
   simp only [Option.bind_some, show idx [k] (0 : Int) = some k from rfl]
   refine OkP.bind (hself k e2 e3) fun t ht => ?_
   subst ht
   rw [cat_of (by simp; omega)]
   refine OkP.of rfl ?_
   simp [vtext]
  by_cases k3 : n.1 = 3
  ·simp only [k3, decide_false, decide_true, cond_true, if_true, show ((3 : Int) = 0) = False from by simp, show ((3 : Int) = 1) = False from by simp, show ((3 : Int) = 2) = False from by simp, cond_false, if_false] at hnil htot ⊢
   have hkI : kidI L n = (nKids n).filter fun k => !(vAt L k).isNil := by
    unfold kidI
    simp [noneB, oneB, k3]
   rw [hkI]
   unfold joinV at hnil htot ⊢
   rw [kidV_filter] at hnil htot ⊢
   have hsub : ∀ k ∈ (nKids n).filter fun k => !(vAt L k).isNil, k ∈ nKids n := fun k hk => (List.mem_filter.1 hk).1
   have hfl : ((nKids n).filter fun k => !(vAt L k).isNil).length ≤ 20000 := Nat.le_trans (List.length_filter_le _ _) hnum
   revert hnil htot hsub hfl
   generalize (nKids n).filter (fun k => !(vAt L k).isNil) = ks
   intro hnil htot hsub hfl
   cases ks with
   | nil => cases hnil
   | cons k0 r =>
   have hk0 := hkid k0 (hsub k0 List.mem_cons_self)
   have ht0 := hkt k0 (hsub k0 List.mem_cons_self)
   simp only [show idx (k0 :: r) (0 : Int) = some k0 from rfl, Option.bind_some]
   have htot : (joinL [59, 32] (vtexts ((k0 :: r).map (vAt L)))).length ≤ 2000000 := htot
   refine OkP.bind (hself k0 hk0.1 hk0.2) fun t ht => ?_
   subst ht
   have hsb : sub (k0 :: r) (1 : Int) (((List.length (k0 :: r)) : Nat) : Int) = some r := by
    have := sub_nat (l := k0 :: r) (a := 1) (b := (k0 :: r).length) (by simp) (Nat.le_refl _)
    refine this.trans ?_
    simp
   rw [hsb]
   simp only [Option.bind_some]
   have htx : ∀ j, vtexts ((r.take j).map (vAt L)) = (vtexts (r.map (vAt L))).take j := fun j => by rw [vtexts_map, vtexts_map, List.map_take, List.map_take]
   refine OkP.bind (Q := fun x => x = joinL [59, 32] (vtexts ((k0 :: r).map (vAt L)))) ?_ fun x hx => OkP.of rfl hx
   refine OkP.range r (fun j s => s = vtext (vAt L k0) ++ joinT [59, 32] ((vtexts (r.map (vAt L))).take j)) (fun j k s hj hs => ?_) (fun s hs => ?_) (by simp [joinT])
   ·subst hs
    have hjl := (List.getElem?_eq_some_iff.1 hj).1
    have hkr := List.mem_of_getElem? hj
    have hkk := hkid k (hsub k (List.mem_cons_of_mem _ hkr))
    have htk := hkt k (hsub k (List.mem_cons_of_mem _ hkr))
    have hb : decide ((j : Int) < ((List.length r : Nat) : Int)) = true := by simp; omega
    have hlj := joinT_le [59, 32] (vtexts (r.map (vAt L))) j
    have hl2 : (joinT [59, 32] (vtexts (r.map (vAt L)))).length ≤ 2000000 := by
     have e : vtexts ((k0 :: r).map (vAt L)) = vtext (vAt L k0) :: vtexts (r.map (vAt L)) := rfl
     rw [e] at htot
     simp only [joinL, List.length_append] at htot
     omega
    have hgj : (vtexts (r.map (vAt L)))[j]? = some (vtext (vAt L k)) := by rw [vtexts_map, List.getElem?_map, List.getElem?_map, hj]; rfl
    have hrl : r.length ≤ 20000 := by simp only [List.length_cons] at hfl; omega
    simp only [hb, cond_true, idx_nat, hj, Option.bind_some]
    refine OkP.bind (hself k hkk.1 hkk.2) fun t ht => ?_
    subst ht
    rw [cat_of (by simp; omega)]
    simp only [Option.bind_some]
    rw [cat_of (by simp; omega)]
    refine OkP.of rfl ⟨wrapS (by omega), ?_⟩
    rw [joinT_take _ _ j _ hgj]
    simp
   ·subst hs
    simp only [Int.lt_irrefl, decide_false, cond_false]
    refine OkP.of rfl ?_
    have e : (vtexts (r.map (vAt L))).take r.length = vtexts (r.map (vAt L)) := List.take_of_length_le (by rw [vtexts_map, List.length_map, List.length_map]; exact Nat.le_refl _)
    rw [e]
    rfl
  simp only [k0, k1, k2, k3, decide_false, cond_false, if_false] at hnil ⊢
  refine OkP.of rfl ?_
  split
  ·rfl
  split
  ·rfl
  split
  ·rfl
  ·rename_i a b c
   rw [if_neg a, if_neg b, if_neg c] at hnil
   cases hnil
theorem textR_ok {L : List NodeD} {tx : Nat → Int} (hL : FitL L tx) (hI : ∀ n ∈ L, NI n) {k : Int} (h0 : 0 ≤ k) (h1 : k < L.length) : folioref01_Text L k = some (vtext (vAt L k)) := supC_ok k.toNat fun m => textN_ok hL hI m k h0 h1
theorem textP_ok {d b : Nat} {v : Vw} (h : Good d b v) (hd : d ≤ 400) (hb : b ≤ 1099511627776) : fault_Text (enc v) = some (vtext v) := by
 unfold fault_Text
 rw [enc_nil]
 cases hn : v.isNil with
 | true => cases v <;> first | rfl | cases hn
 | false =>
  have := errN_enc 400 d b v h hn hd hb
  show (mError (enc v)).bind _ = _
  rw [show mError (enc v) = some (vtext v) from this]
  rfl
theorem vAt_nat {L : List NodeD} {i : Nat} (h : i < L.length) : (Vs L)[i]? = some (vAt L (i : Int)) := by
 have hl : i < (Vs L).length := by rw [Vs_length]; exact h
 show _ = some ((Vs L).getD i .nil)
 rw [List.getD_eq_getElem?_getD, List.getElem?_eq_getElem hl]
 rfl
theorem good_mem {L : List NodeD} {tx : Nat → Int} (hL : FitL L tx) (hI : ∀ n ∈ L, NI n) {v : Vw} (h : v ∈ Vs L) : Good 200 2000000 v := by
 obtain ⟨i, hi, rfl⟩ := List.mem_iff_getElem.1 h
 have hl : i < L.length := by rw [← Vs_length]; exact hi
 have e := vAt_nat hl
 rw [List.getElem?_eq_getElem hi] at e
 injection e with e
 rw [e]
 exact goodAt hL hI (by omega) (by omega)
end Go.Fn
/- FaultTells, plainly: the document's faults, and the law. -/
namespace Go.Fn
open Go Go.Lf Go.Eng Go.Proofs
def wayT (told : Bool) (src : Int) (trail : List StepD) : WayD := (bif told then 1 else 0, (src, (trail, ())))
theorem gathVs_pre (w : WayD) : ∀ (ks : List Vw) (j : Nat), (gathVs (ks.take j) w).length ≤ (gathVs ks w).length
 | [], j => by simp
 | v :: r, 0 => by simp [gathVs]
 | v :: r, j + 1 => by
  have := gathVs_pre w r j
  simp only [List.take_succ_cons, gathVs, List.length_append]
  omega
def wayN (n : NodeD) (w : WayD) : WayD := if n.1 = 1 then (w.1, (w.2.1, (w.2.2.1 ++ [(nLayer n, (nWhat n, ()))], ()))) else if n.1 = 2 then (if w.1 = 0 then (1, (nWhat n, w.2.2)) else w) else w
theorem gath_kids {L : List NodeD} {n : NodeD} (hk0 : n.1 ≠ 0) (hnil : (mkV n (kidV (Vs L) n)).isNil = false) (w : WayD) : gathV (mkV n (kidV (Vs L) n)) w = gathVs ((kidI L n).map (vAt L)) (wayN n w) := by
 have one : ∀ w', (oneB n = true → noneB n = false → (gathV (firstV (kidV (Vs L) n)) w' = gathVs ((kidI L n).map (vAt L)) w')) := fun w' ho hz => by
  rw [firstV_kid]
  unfold kidI
  rw [ho, hz]
  cases nKids n with
  | nil => rfl
  | cons k r =>
   simp only [cond_false, cond_true]
   cases hv : (vAt L k).isNil with
   | true => cases hw : vAt L k <;> rw [hw] at hv <;> first | rfl | cases hv
   | false => simp [gathVs]
 have all : noneB n = false → oneB n = false → gathVs (kidV (Vs L) n) w = gathVs ((kidI L n).map (vAt L)) w := fun hz ho => by
  rw [← gathVs_filter, kidV_filter]
  unfold kidI
  rw [hz, ho]
  rfl
 unfold mkV at hnil ⊢
 unfold wayN
 rw [if_neg hk0] at hnil ⊢
 by_cases k1 : n.1 = 1
 ·simp only [k1, if_true] at hnil ⊢
  cases hv : (firstV (kidV (Vs L) n)).isNil with
  | true => rw [hv] at hnil; cases hnil
  | false => exact one _ (by simp [oneB, k1]) (by simp [noneB, k1])
 rw [if_neg k1] at hnil ⊢
 rw [if_neg k1]
 by_cases k2 : n.1 = 2
 ·simp only [k2, if_true] at hnil ⊢
  cases hv : (firstV (kidV (Vs L) n)).isNil with
  | true => rw [hv] at hnil; cases hnil
  | false => exact one _ (by simp [oneB, k2]) (by simp [noneB, k2])
 rw [if_neg k2] at hnil ⊢
 rw [if_neg k2]
 by_cases k3 : n.1 = 3
 ·rw [if_pos k3, gath_join]
  exact all (by simp [noneB, k3]) (by simp [oneB, k3])
 rw [if_neg k3] at hnil ⊢
 by_cases k4 : n.1 = 4
 ·rw [if_pos k4]
  unfold kidI
  rw [show noneB n = true by simp [noneB, k4]]
  rfl
 rw [if_neg k4] at hnil ⊢
 by_cases k5 : n.1 = 5
 ·rw [if_pos k5]
  exact one _ (by simp [oneB, k5]) (by simp [noneB, k5])
 rw [if_neg k5] at hnil ⊢
 by_cases k6 : n.1 = 6
 ·rw [if_pos k6]
  exact all (by simp [noneB, k6]) (by simp [oneB, k6])
 ·rw [if_neg k6] at hnil
  cases hnil
theorem kidI_sub {L : List NodeD} {n : NodeD} {k : Int} (h : k ∈ kidI L n) : k ∈ nKids n ∧ (vAt L k).isNil = false := by
 unfold kidI at h
 cases h0 : noneB n with
 | true => rw [h0] at h; cases h
 | false =>
  rw [h0, cond_false] at h
  cases h1 : oneB n with
  | true =>
   rw [h1, cond_true] at h
   cases hk : nKids n with
   | nil => rw [hk] at h; cases h
   | cons a r =>
    rw [hk] at h
    simp only at h
    cases hv : (vAt L a).isNil with
    | true => rw [hv] at h; cases h
    | false =>
     rw [hv] at h
     have : k = a := by simpa using h
     subst this
     exact ⟨List.mem_cons_self, hv⟩
  | false =>
   rw [h1, cond_false] at h
   obtain ⟨h2, h3⟩ := List.mem_filter.1 h
   exact ⟨h2, by simpa using h3⟩
theorem deepL {L : List NodeD} {tx : Nat → Int} (hL : FitL L tx) {i : Nat} (hi : i < L.length) : Deep 201 1000000 (vAt L (i : Int)) := Deep.mono _ (by have := hL.len; omega) (by have := (hL.one i hi).le; omega) (deepV hL.one i hi)
theorem kidI_len {L : List NodeD} {n : NodeD} : (kidI L n).length ≤ (nKids n).length + 1 := by
 unfold kidI
 cases noneB n with
 | true => exact Nat.zero_le _
 | false =>
  cases oneB n with
  | true =>
   simp only [cond_false, cond_true]
   cases nKids n with
   | nil => exact Nat.zero_le _
   | cons a r =>
    show (bif (vAt L a).isNil then [] else [a]).length ≤ _
    cases (vAt L a).isNil <;> simp
  | false =>
   simp only [cond_false]
   exact Nat.le_trans (List.length_filter_le _ _) (Nat.le_succ _)
set_option maxHeartbeats 1000000 in
theorem faultsN_ok {L : List NodeD} {tx : Nat → Int} (hL : FitL L tx) : ∀ (m : Nat) (k : Int) (trail : List StepD) (src : Int) (told : Bool), 0 ≤ k → k < L.length → (vAt L k).isNil = false → trail.length + k.toNat ≤ 1000 →
  OkP (m ≤ k.toNat) (folioref01_faultsN m (L, (k, (trail, (src, told))))) (· = gathV (vAt L k) (wayT told src trail)) := by
 intro m
 induction m with
 | zero => exact fun k _ _ _ _ _ _ _ => .inr ⟨Nat.zero_le _, rfl⟩
 | succ m ih =>
  intro k trail src told h0 h1 hnil htr
  obtain ⟨i, rfl⟩ : ∃ i : Nat, k = (i : Int) := ⟨k.toNat, by omega⟩
  have hi : i < L.length := by omega
  obtain ⟨n, hn⟩ : ∃ n, L[i]? = some n := ⟨L[i], List.getElem?_eq_getElem hi⟩
  have htr : trail.length + i ≤ 1000 := htr
  have hself : ∀ (k : Int) (tr : List StepD) (s : Int) (t : Bool), 0 ≤ k → k < i → (vAt L k).isNil = false → tr.length ≤ trail.length + 1 → OkP (m + 1 ≤ i) (folioref01_faultsN m (L, (k, (tr, (s, t))))) (· = gathV (vAt L k) (wayT t s tr)) := fun k tr s t h2 h3 h4 h5 => (ih k tr s t h2 (by omega) h4 (by omega)).imp (fun h => by omega) fun _ h => h
  have hkid := (hL.one i hi).kid n hn
  have hnum := (hL.one i hi).num n hn
  have hdp := gathV_len (vAt L (i : Int)) 201 1000000 (wayT told src trail) (deepL hL hi)
  show OkP (m + 1 ≤ i) (folioref01_faultsB (folioref01_faultsN m) L (i : Int) trail src told) _
  unfold folioref01_faultsB
  simp only [idx_nat, hn, Option.bind_some]
  rw [vAt_get hL hn] at hnil hdp ⊢
  by_cases k0 : n.1 = 0
  ·have hc : nCode n ≠ 0 := fun hc => by
    unfold mkV at hnil
    rw [if_pos k0, if_pos hc] at hnil
    cases hnil
   have hv : mkV n (kidV (Vs L) n) = .new (nCode n) (nSrc n) (nLine n) (nCol n) (nWord n) := by
    unfold mkV
    rw [if_pos k0, if_neg hc]
   rw [hv]
   have e1 : app 24 ([] : List StepD) trail = some trail := by rw [app_of (by simp; omega)]; rfl
   simp only [k0, decide_true, cond_true]
   cases told with
   | true =>
    simp only [cond_true, Option.bind_some, e1, onSum]
    exact OkP.of rfl rfl
   | false =>
    simp only [cond_false, Option.bind_some, e1, onSum]
    exact OkP.of rfl rfl
  rw [gath_kids k0 hnil] at hdp ⊢
  simp only [k0, decide_false, cond_false]
  have go : ∀ (t : Bool) (s : Int) (tr : List StepD), wayN n (wayT told src trail) = wayT t s tr → tr.length ≤ trail.length + 1 →
    OkP (m + 1 ≤ i) ((folioref01_kids L (i : Int)).bind fun r9 =>
   (Go.Lf.loopC (σ := (Int) × (List FaultD)) (κ := List FaultD) (fun z10 =>
   bif (decide (z10.1 < (((List.length r9) : Nat) : Int))) then ((Go.Lf.idx r9 z10.1)).bind fun r11 =>
   ((folioref01_faultsN m (L, (r11, (tr, (s, t)))))).bind fun r12 =>
   ((Go.Lf.app (72 : Nat) z10.2 r12)).bind fun r13 =>
   some (.inl ((Go.IntKind.wrap .i64 (z10.1 + (1 : Int))), r13))
   else some (.inr z10.2)) ((0 : Int), ([] : List FaultD)) : Option (List FaultD)).bind fun r14 =>
   some r14) (· = gathVs ((kidI L n).map (vAt L)) (wayN n (wayT told src trail))) := fun t s tr hw hl => by
   rw [kidsR_ok hL hn]
   simp only [Option.bind_some]
   rw [hw] at hdp ⊢
   have hkl := kidI_len (L := L) (n := n)
   refine OkP.bind (Q := fun r => r = gathVs ((kidI L n).map (vAt L)) (wayT t s tr)) ?_ fun r hr => OkP.of rfl hr
   refine OkP.range (kidI L n) (fun j o => o = gathVs (((kidI L n).map (vAt L)).take j) (wayT t s tr)) (fun j k o hj ho => ?_) (fun o ho => ?_) (by simp [gathVs])
   ·subst ho
    obtain ⟨h2, h3⟩ := kidI_sub (List.mem_of_getElem? hj)
    have hkk := hkid k h2
    have hjl := (List.getElem?_eq_some_iff.1 hj).1
    have hb : decide ((j : Int) < ((List.length (kidI L n) : Nat) : Int)) = true := by simp; omega
    have hg : ((kidI L n).map (vAt L))[j]? = some (vAt L k) := by rw [List.getElem?_map, hj]; rfl
    have ht := gathVs_take (wayT t s tr) _ j _ hg
    have hp := gathVs_pre (wayT t s tr) ((kidI L n).map (vAt L)) (j + 1)
    rw [ht, List.length_append] at hp
    simp only [hb, cond_true, idx_nat, hj, Option.bind_some]
    refine OkP.bind (hself k tr s t hkk.1 hkk.2 h3 hl) fun r hr => ?_
    subst hr
    rw [app_of (by omega)]
    exact OkP.of rfl ⟨wrapS (by omega), ht.symm⟩
   ·subst ho
    simp only [Int.lt_irrefl, decide_false, cond_false]
    refine OkP.of rfl ?_
    rw [List.take_of_length_le (by rw [List.length_map]; exact Nat.le_refl _)]
  by_cases k1 : n.1 = 1
  ·have e1 : app 24 ([] : List StepD) trail = some trail := by rw [app_of (by simp; omega)]; rfl
   have e2 : app 24 trail [(nLayer n, (nWhat n, ()))] = some (trail ++ [(nLayer n, (nWhat n, ()))]) := by rw [app_of (by simp; omega)]
   simp only [k1, decide_true, cond_true, Option.bind_some, e1]
   rw [show app 24 trail [(n.2.2.1, n.2.2.2.1, ())] = some (trail ++ [(nLayer n, (nWhat n, ()))]) from e2]
   simp only [Option.bind_some, onSum]
   exact go told src (trail ++ [(nLayer n, (nWhat n, ()))]) (by unfold wayN; rw [if_pos k1]; rfl) (by simp)
  by_cases k2 : n.1 = 2
  ·simp only [k2, decide_true, cond_true, cond_false, show decide ((2 : Int) = 1) = false from rfl]
   cases told with
   | true =>
    simp only [Bool.not_true, cond_false, Option.bind_some, onSum]
    exact go true src trail (by unfold wayN; rw [if_neg k1, if_pos k2]; rfl) (by omega)
   | false =>
    simp only [Bool.not_false, cond_true, Option.bind_some, onSum]
    exact go true (nWhat n) trail (by unfold wayN; rw [if_neg k1, if_pos k2]; rfl) (by omega)
  ·simp only [k1, k2, decide_false, cond_false, Option.bind_some, onSum]
   exact go told src trail (by unfold wayN; rw [if_neg k1, if_neg k2]) (by omega)
theorem faults_ok {L : List NodeD} {tx : Nat → Int} (hL : FitL L tx) {k : Int} (h0 : 0 ≤ k) (h1 : k < L.length) (hn : (vAt L k).isNil = false) : folioref01_faults L k [] 0 false = some (gathV (vAt L k) way0) :=
 supC_ok k.toNat fun m => faultsN_ok hL m k [] 0 false h0 h1 hn (by have := hL.len; simp; omega)
theorem mkV_bare {L : List NodeD} {n : NodeD} (hnil : (mkV n (kidV (Vs L) n)).isNil = false) : (n.1 = 1 → ∃ k, kidI L n = [k] ∧ k ∈ nKids n ∧ (vAt L k).isNil = false ∧ bareV (mkV n (kidV (Vs L) n)) = (nLayer n, (nWhat n, ())) :: bareV (vAt L k)) ∧
  (n.1 = 2 → ∃ k, kidI L n = [k] ∧ k ∈ nKids n ∧ (vAt L k).isNil = false ∧ bareV (mkV n (kidV (Vs L) n)) = bareV (vAt L k)) ∧ (n.1 ≠ 1 → n.1 ≠ 2 → bareV (mkV n (kidV (Vs L) n)) = []) := by
 have one : oneB n = true → noneB n = false → (firstV (kidV (Vs L) n)).isNil = false → ∃ k, kidI L n = [k] ∧ k ∈ nKids n ∧ (vAt L k).isNil = false ∧ firstV (kidV (Vs L) n) = vAt L k := fun ho hz hv => by
  rw [firstV_kid] at hv ⊢
  cases hk : nKids n with
  | nil => rw [hk] at hv; cases hv
  | cons k r =>
   rw [hk] at hv
   have hv : (vAt L k).isNil = false := hv
   refine ⟨k, ?_, List.mem_cons_self, hv, rfl⟩
   unfold kidI
   rw [ho, hz, hk]
   simp only [cond_false, cond_true, hv]
 refine ⟨fun k1 => ?_, fun k2 => ?_, fun k1 k2 => ?_⟩
 ·unfold mkV at hnil ⊢
  simp only [k1, show ((1 : Int) = 0) = False from by simp, if_false, if_true] at hnil ⊢
  cases hv : (firstV (kidV (Vs L) n)).isNil with
  | true => rw [hv] at hnil; cases hnil
  | false =>
   obtain ⟨k, e1, e2, e3, e4⟩ := one (by simp [oneB, k1]) (by simp [noneB, k1]) hv
   exact ⟨k, e1, e2, e3, by rw [e4]; rfl⟩
 ·unfold mkV at hnil ⊢
  simp only [k2, show ((2 : Int) = 0) = False from by simp, show ((2 : Int) = 1) = False from by simp, if_false, if_true] at hnil ⊢
  cases hv : (firstV (kidV (Vs L) n)).isNil with
  | true => rw [hv] at hnil; cases hnil
  | false =>
   obtain ⟨k, e1, e2, e3, e4⟩ := one (by simp [oneB, k2]) (by simp [noneB, k2]) hv
   exact ⟨k, e1, e2, e3, by rw [e4]; rfl⟩
 ·unfold mkV
  rw [if_neg k1, if_neg k2]
  split
  ·split <;> rfl
  split
  ·unfold joinV
   split <;> rfl
  split
  ·rfl
  split
  ·rfl
  split <;> rfl
set_option maxHeartbeats 1000000 in
theorem allR_ok {L : List NodeD} {tx : Nat → Int} (hL : FitL L tx) {k : Int} (h0 : 0 ≤ k) (h1 : k < L.length) : folioref01_All L k = some (allV (vAt L k)) := by
 unfold folioref01_All allV
 rw [nil_ok hL h0 h1]
 simp only [Option.bind_some]
 cases hn : (vAt L k).isNil with
 | true => rfl
 | false =>
 simp only [cond_false]
 rw [faults_ok hL h0 h1 hn]
 simp only [Option.bind_some]
 cases hg : gathV (vAt L k) way0 with
 | cons a r =>
  have : decide ((0 : Int) < (((a :: r).length : Nat) : Int)) = true := decide_eq_true (by simp)
  rw [this]
  rfl
 | nil =>
  simp only [List.length_nil, show decide ((0 : Int) < ((0 : Nat) : Int)) = false from rfl, cond_false]
  refine OkP.eq ?_
  refine OkP.bind (Q := fun r => r = ((10, (0, (0, (0, ([], (bareV (vAt L k), ())))))) : FaultD)) ?_ fun r hr => OkP.of rfl (by rw [hr])
  refine OkP.loop (fun m z => ∃ i : Nat, z.1 = (i : Int) ∧ i < L.length ∧ (vAt L (i : Int)).isNil = false ∧ m = i ∧ ∃ tr : List StepD, z.2 = ((10, (0, (0, (0, ([], (tr, ())))))) : FaultD) ∧ tr ++ bareV (vAt L (i : Int)) = bareV (vAt L k) ∧ tr.length + i ≤ 1000) (fun m z hz => ?_) k.toNat _ ⟨k.toNat, by omega, by omega, by rw [show ((k.toNat : Nat) : Int) = k by omega]; exact hn, rfl, [], rfl, by rw [show ((k.toNat : Nat) : Int) = k by omega]; rfl, by have := hL.len; simp; omega⟩
  obtain ⟨i, e1, hi, hnil, rfl, tr, e2, e3, e4⟩ := hz
  obtain ⟨z1, z2⟩ := z
  simp only at e1 e2
  subst e1 e2
  obtain ⟨n, hnn⟩ : ∃ n, L[m]? = some n := ⟨L[m], List.getElem?_eq_getElem hi⟩
  have hkid := (hL.one m hi).kid n hnn
  rw [vAt_get hL hnn] at hnil e3
  obtain ⟨b1, b2, b3⟩ := mkV_bare hnil
  simp only [kidsR_ok hL hnn, Option.bind_some, idx_nat, hnn]
  by_cases k1 : n.1 = 1
  ·obtain ⟨q, q1, q2, q3, q4⟩ := b1 k1
   have hq := hkid q q2
   simp only [k1, decide_true, cond_true]
   rw [show app 24 tr [(n.2.2.1, n.2.2.2.1, ())] = some (tr ++ [(nLayer n, (nWhat n, ()))]) from app_of (by simp; omega)]
   simp only [Option.bind_some, onSum, q1, List.length_cons, List.length_nil, show decide ((((0 + 1 : Nat) : Int) : Int) ≠ 1) = false from rfl, cond_false, show idx [q] (0 : Int) = some q from rfl]
   refine OkP.of rfl ⟨q.toNat, by omega, q.toNat, by show q = _; omega, by omega, by rw [show ((q.toNat : Nat) : Int) = q by omega]; exact q3, rfl, _, rfl, ?_, ?_⟩
   ·rw [show ((q.toNat : Nat) : Int) = q by omega, ← e3, q4]
    simp
   ·simp
    omega
  by_cases k2 : n.1 = 2
  ·obtain ⟨q, q1, q2, q3, q4⟩ := b2 k2
   have hq := hkid q q2
   simp only [k2, show decide ((2 : Int) = 1) = false from rfl, show decide ((2 : Int) ≠ 2) = false from rfl, cond_false, Option.bind_some, onSum, q1, List.length_cons, List.length_nil, show decide ((((0 + 1 : Nat) : Int) : Int) ≠ 1) = false from rfl, show idx [q] (0 : Int) = some q from rfl]
   refine OkP.of rfl ⟨q.toNat, by omega, q.toNat, by show q = _; omega, by omega, by rw [show ((q.toNat : Nat) : Int) = q by omega]; exact q3, rfl, _, rfl, ?_, ?_⟩
   ·rw [show ((q.toNat : Nat) : Int) = q by omega, ← e3, q4]
   ·omega
  ·have e5 : decide ((n.1 : Int) ≠ 2) = true := decide_eq_true k2
   simp only [k1, decide_false, cond_false, e5, cond_true, Option.bind_some, onSum]
   refine OkP.of rfl ?_
   rw [b3 k1 k2, List.append_nil] at e3
   rw [← e3]
def headF (l : List FaultD) : FaultD := match l with
 | [] => (0, (0, (0, (0, ([], ([], ()))))))
 | f :: _ => f
theorem toldR_ok {L : List NodeD} {tx : Nat → Int} (hL : FitL L tx) {k : Int} (h0 : 0 ≤ k) (h1 : k < L.length) : folioref01_Told L k = some (headF (allV (vAt L k))) := by
 unfold folioref01_Told
 rw [allR_ok hL h0 h1]
 simp only [Option.bind_some]
 cases allV (vAt L k) with
 | nil => rfl
 | cons f r =>
  have : decide ((((f :: r).length : Nat) : Int) = (0 : Int)) = false := decide_eq_false (by simp; omega)
  rw [this]
  rfl
theorem toldP_ok {v : Vw} {d n : Nat} (hd : Deep d n v) (h1 : d ≤ 1000000) (h2 : n ≤ 1000000000) : fault_Told (enc v) = some (headF (allV v)) := by
 unfold fault_Told
 rw [all_ok hd h1 h2]
 simp only [Option.bind_some]
 cases allV v with
 | nil => rfl
 | cons f r =>
  have : decide ((((f :: r).length : Nat) : Int) = (0 : Int)) = false := decide_eq_false (by simp; omega)
  rw [this]
  rfl
theorem hasVs_all {c : Int} : ∀ {l : List Vw}, (∀ v ∈ l, hasV c v = false) → hasVs c l = false
 | [], _ => rfl
 | v :: r, h => by
  simp only [hasVs, h v List.mem_cons_self, hasVs_all fun v hv => h v (List.mem_cons_of_mem _ hv), Bool.or_false]
theorem hasV0 {L : List NodeD} {tx : Nat → Int} (hL : FitL L tx) : ∀ i : Nat, i < L.length → hasV 0 (vAt L (i : Int)) = false := by
 intro i
 induction i using Nat.strongRecOn with
 | ind i ih =>
 intro hi
 obtain ⟨n, hn⟩ : ∃ n, L[i]? = some n := ⟨L[i], List.getElem?_eq_getElem hi⟩
 have hkid := (hL.one i hi).kid n hn
 rw [vAt_get hL hn]
 have hks : ∀ v ∈ kidV (Vs L) n, hasV 0 v = false := fun v hv => by
  obtain ⟨k, hk, rfl⟩ := List.mem_map.1 hv
  have hkk := hkid k hk
  have := ih k.toNat (by omega) (by omega)
  exact this
 have hf : hasV 0 (firstV (kidV (Vs L) n)) = false := by
  revert hks
  cases kidV (Vs L) n with
  | nil => exact fun _ => rfl
  | cons v r => exact fun h => h v List.mem_cons_self
 unfold mkV
 split
 ·split
  ·rfl
  ·rename_i h
   simpa [hasV] using h
 split
 ·cases (firstV (kidV (Vs L) n)).isNil with
  | true => rfl
  | false => exact hf
 split
 ·cases (firstV (kidV (Vs L) n)).isNil with
  | true => rfl
  | false => exact hf
 split
 ·rw [has_join]
  exact hasVs_all hks
 split
 ·rfl
 split
 ·exact hf
 split
 ·exact hasVs_all hks
 ·rfl
theorem isR_ok {L : List NodeD} {tx : Nat → Int} (hL : FitL L tx) {k : Int} (h0 : 0 ≤ k) (h1 : k < L.length) (c : Int) : folioref01_Is L k c = some (bif (vAt L k).isNil then decide (c = 0) else hasV c (vAt L k)) := by
 unfold folioref01_Is
 rw [nil_ok hL h0 h1]
 simp only [Option.bind_some]
 cases hn : (vAt L k).isNil with
 | true => rfl
 | false =>
 simp only [cond_false]
 rw [faults_ok hL h0 h1 hn]
 simp only [Option.bind_some]
 rw [← has_gath c (vAt L k) way0]
 have hlen := gathV_len (vAt L k) 201 1000000 way0 (by rw [show k = ((k.toNat : Nat) : Int) by omega]; exact deepL hL (by omega))
 revert hlen
 generalize gathV (vAt L k) way0 = l
 intro hlen
 refine OkP.eq ?_
 refine OkP.bind (Q := fun r => match r with | .inl _ => l.any (fun f => decide (f.1 = c)) = false | .inr b => b = true ∧ l.any (fun f => decide (f.1 = c)) = true) ?_ fun r hr => ?_
 ·refine OkP.loop (fun n z => ∃ i : Nat, i + n = l.length ∧ z = (i : Int) ∧ (l.take i).any (fun f => decide (f.1 = c)) = false) (fun n z hz => ?_) l.length 0 ⟨0, by omega, rfl, rfl⟩
  obtain ⟨i, hi, rfl, hf⟩ := hz
  by_cases hlt : i < l.length
  ·have hb : decide ((i : Int) < ((List.length l : Nat) : Int)) = true := by simp; omega
   have hg : l[i]? = some l[i] := List.getElem?_eq_getElem hlt
   simp only [hb, cond_true, idx_nat, hg, Option.bind_some]
   by_cases hc : (l[i]).1 = c
   ·simp only [hc, decide_true, cond_true]
    exact OkP.of rfl ⟨rfl, List.any_eq_true.2 ⟨l[i], List.getElem_mem hlt, by simp [hc]⟩⟩
   ·simp only [hc, decide_false, cond_false]
    refine OkP.of rfl ⟨n - 1, by omega, i + 1, by omega, wrapS (by omega), ?_⟩
    rw [List.take_add_one, hg, List.any_append, hf]
    simp [hc]
  ·have : i = l.length := by omega
   subst this
   simp only [Int.lt_irrefl, decide_false, cond_false]
   refine OkP.of rfl ?_
   rw [List.take_length] at hf
   exact hf
 ·cases r with
  | inl u => exact OkP.of rfl (Eq.symm hr)
  | inr b => exact OkP.of rfl (by rw [hr.1, hr.2])
set_option maxHeartbeats 2000000 in
theorem tells_law (L : List NodeD) (cs : List Int) (hw : NWf L) (hI : ∀ n ∈ L, NI n) : foliolaw01_FaultTells L cs = some true := by
 unfold foliolaw01_FaultTells
 rw [awake]
 simp only [Option.bind_some, Bool.not_true, cond_false]
 refine OkP.eq ?_
 refine OkP.bind (Q := fun r => r = false → cs.length ≤ 50 ∧ L.length ≤ 200 ∧ ∃ tx, ∀ i, i < L.length → Fit1 L tx i) ?_ fun b hb => ?_
 ·refine OkP.bind (fits_ok L hw) fun b hb => ?_
  cases b with
  | false => exact OkP.of rfl (fun h => by cases h)
  | true =>
   obtain ⟨h200, tx, hone⟩ := hb rfl
   simp only [Bool.not_true, Bool.not_false, cond_true]
   exact OkP.of rfl fun h => ⟨by have := of_decide_eq_false h; omega, h200, tx, hone⟩
 cases b with
 | true => exact OkP.of rfl rfl
 | false =>
 obtain ⟨hc50, h200, tx, hone⟩ := hb rfl
 have hL : FitL L tx := ⟨h200, hone⟩
 simp only [cond_false, made_ok L h200 hone, Option.bind_some]
 refine OkP.bind (Q := fun r => match r with | .inl _ => True | .inr b => b = true) ?_ fun r hr => ?_
 ·refine OkP.range (encs (Vs L)) (fun i s => s = encs (Vs L)) (fun i x s hx hs => ?_) (fun s hs => ?_) rfl
  ·subst hs
   have hxv := hx
   rw [encs_get] at hxv
   obtain ⟨v, hv, rfl⟩ := Option.map_eq_some_iff.1 hxv
   have hlt : i < L.length := by rw [← Vs_length]; exact (List.getElem?_eq_some_iff.1 hv).1
   have hva : vAt L (i : Int) = v := vAt_get0 hv
   have hd : Deep 201 1000000 v := by rw [← hva]; exact deepL hL hlt
   have hg : Good 200 2000000 v := good_mem hL hI (List.mem_of_getElem? hv)
   have hte := textP_ok hg (by omega) (by omega)
   have hall := all_ok hd (by omega) (by omega)
   have hto := toldP_ok hd (by omega) (by omega)
   have hal := allV_len hd
   have htr := allV_trail hd
   have hb : decide ((i : Int) < ((List.length (encs (Vs L)) : Nat) : Int)) = true := by rw [encs_len, Vs_length]; simp; omega
   have p0 : (0 : Int) ≤ (i : Int) := by omega
   have p1 : (i : Int) < L.length := by omega
   have s1 := sameAll_refl (allV v) (by omega) (fun f hf => by have := htr f hf; omega)
   have s2 : folioref01_Same (headF (allV v)) (headF (allV v)) = some true := by
    refine same_refl _ ?_
    revert htr
    cases allV v with
    | nil => intro _; exact Nat.zero_le _
    | cons f r => intro h; have := h f List.mem_cons_self; show f.2.2.2.2.2.1.length ≤ _; omega
   simp only [hb, cond_true, idx_nat, hx, Option.bind_some, enc_nil, nil_ok hL p0 p1, allR_ok hL p0 p1, toldR_ok hL p0 p1, textR_ok hL hI p0 p1, hva, hall, hto, hte, s1, s2, ne_eq, not_true_eq_false, decide_false, Bool.not_false, Bool.not_true, cond_false]
   refine OkP.bind (Q := fun r => match r with | .inl s => s = encs (Vs L) | .inr _ => False) ?_ fun r hr => ?_
   ·refine OkP.range cs (fun j s => s = encs (Vs L)) (fun j c s hj hs => ?_) (fun s hs => ?_) rfl
    ·subst hs
     have hjl := (List.getElem?_eq_some_iff.1 hj).1
     have hbj : decide ((j : Int) < ((List.length cs : Nat) : Int)) = true := by simp; omega
     have h4 : fault_Is (enc v) c = some (bif v.isNil then decide (c = 0) else hasV c v) := by
      by_cases hc : c = 0
      ·subst hc
       unfold fault_Is
       rw [decide_eq_true rfl, cond_true, enc_nil]
       have h0 := hasV0 hL i hlt
       rw [hva] at h0
       cases hn : v.isNil with
       | true => rfl
       | false => rw [h0]; rfl
      ·rw [fis_ok hc hd (by omega)]
       cases hn : v.isNil with
       | true =>
        have : hasV c v = false := by cases v <;> first | rfl | cases hn
        rw [this, decide_eq_false hc]; rfl
       | false => rfl
     simp only [hbj, cond_true, idx_nat, hj, Option.bind_some, isR_ok hL p0 p1, hva, h4, not_true_eq_false, decide_false, Bool.not_false]
     by_cases hc : c = 0
     ·simp only [hc, not_true_eq_false, decide_false, cond_false, Option.bind_some]
      refine OkP.some ?_
      exact ⟨wrapS (by omega), rfl⟩
     ·have q4 : fault_New c 0 0 0 [] = some (enc (.new c 0 0 0 [])) := by rw [new_ok, if_neg hc]
      have h5 : (bif v.isNil then false else hasV c v) = hasV c v := by
       cases hn : v.isNil with
       | true =>
        have : hasV c v = false := by cases v <;> first | rfl | cases hn
        rw [this]; rfl
       | false => rfl
      simp only [hc, not_false_eq_true, decide_true, cond_true, q4, Option.bind_some, eis_code hc hd (by omega) rfl, h5, not_true_eq_false, decide_false, cond_false]
      refine OkP.some ?_
      exact ⟨wrapS (by omega), rfl⟩
    ·subst hs
     simp only [Int.lt_irrefl, decide_false, cond_false]
     exact OkP.of rfl rfl
   ·cases r with
    | inr b => exact hr.elim
    | inl s =>
     have hr : s = encs (Vs L) := hr
     subst hr
     exact OkP.of rfl ⟨wrapS (by omega), rfl⟩
  ·simp only [Int.lt_irrefl, decide_false, cond_false]
   exact OkP.of rfl trivial
 ·cases r with
  | inl u => exact OkP.of rfl rfl
  | inr b =>
   have hr : b = true := hr
   exact OkP.of rfl hr
theorem tells_wf (x0 : List NodeD) (x1 : List Int) (h0 : Wf (.sl NodeT) x0) (_ : Wf (.sl (.int .i64)) x1) : foliolaw01_FaultTells x0 x1 = some true := tells_law x0 x1 (nwf_of h0) (ni_of h0)
end Go.Fn
