/- Parts of the proof. -/
import Derived.Test.YtjpejkeobcdobaaGreatDoorProg
import Derived.KernelRfl
import Derived.Test.YtjpejkeobcdobaaGreatDoorQAD
open Go Go.Lf
set_option maxRecDepth 10000
namespace Go.Fn
abbrev qY0 : Go.Lf.Ty := (.st (.pr .str (.pr (.int .i64) .unit)))
abbrev qY1 : Go.Lf.Ty := (.pr .str (.pr (.sl (.int .i64)) .unit))
abbrev qY2 : Go.Lf.Ty := (.pr (.int .i64) (.pr (.int .i64) .unit))
abbrev qT3 : Type := (List ((List (UInt8)) × ((Int) × (Unit))))
abbrev qT4 : Type := ((List (UInt8)) × ((List (Int)) × (Unit)))
abbrev qY5 : Go.Lf.Ty := (.pr .str (.pr .str (.pr (.int .i64) .unit)))
abbrev qT6 : Type := ((List (UInt8)) × ((Int) × ((Int) × (Unit))))
abbrev qT7 : Type := ((Int) × ((Int) × ((Int) × ((Int) × (Unit)))))
abbrev qT8 : Type := (((Int) × ((Int) × ((Int) × (Unit)))) × (Unit))
abbrev qT9 : Type := ((List (UInt8)) × ((List (UInt8)) × ((Int) × (Unit))))
abbrev qY10 : Go.Lf.Ty := (.pr .str (.pr .str qY2))
abbrev qY11 : Go.Lf.Ty := (.st (.pr (.int .i64) qY2))
abbrev qT12 : Type := (((Int) × qT7) × (Unit))
abbrev qY13 : Go.Lf.Ty := (.pr .str (.pr (.sl qY0) .unit))
abbrev qT14 : Type := (List ((Int) × ((Int) × qT4)))
abbrev qT15 : Type := ((List (UInt8)) × (qT3 × (Unit)))
abbrev qT16 : Type := ((Int) × ((List (UInt8)) × qT6))
abbrev qY17 : Go.Lf.Ty := (.pr (.int .i64) (.pr (.int .i64) qY1))
abbrev qY18 : Go.Lf.Ty := (.pr (.int .i64) (.pr (.int .i64) qY2))
abbrev qT19 : Type := ((List (UInt8)) × ((List (UInt8)) × qT7))
abbrev qT20 : Type := ((List (UInt8)) × ((List (UInt8)) × qT8))
abbrev qY21 : Go.Lf.Ty := (.st (.pr (.int .i64) qY10))
abbrev qY22 : Go.Lf.Ty := (.pr .str (.pr qY11 .unit))
abbrev qT23 : Type := ((Int) × (qT14 × (Unit)))
abbrev qT24 : Type := ((Int) × ((Int) × qT15))
abbrev qY25 : Go.Lf.Ty := (.pr .str (.pr .str qY18))
abbrev qY26 : Go.Lf.Ty := (.st (.pr (.int .i64) qY18))
abbrev qT27 : Type := ((List qT16) × ((Int) × (Unit)))
abbrev qY28 : Go.Lf.Ty := (.pr (.mr 61 (.st qY17)) .unit)
abbrev qY29 : Go.Lf.Ty := (.pr (.int .i64) (.pr (.int .i64) qY13))
abbrev qY30 : Go.Lf.Ty := (.sl (.st (.pr .str qY22)))
abbrev qT31 : Type := ((Int) × ((Int) × qT24))
abbrev qY32 : Go.Lf.Ty := (.rw 39 (.st (.pr .str qY22)))
abbrev qY33 : Go.Lf.Ty := (.pr (.sl qY21) (.pr (.int .i64) .unit))
abbrev qY34 : Go.Lf.Ty := (.pr (.sl (.st (.pr .bool qY18))) (.pr .bool .unit))
abbrev qT35 : Type := ((Int) × (qT31 × (Unit)))
abbrev qT36 : Type := ((List (UInt8)) × ((List (Int)) × qT27))
abbrev qY37 : Go.Lf.Ty := (.pr (.int .i64) (.pr (.int .i64) qY29))
abbrev qY38 : Go.Lf.Ty := (.pr (.sl (.int .i64)) qY33)
abbrev qT39 : Type := ((Int) × ((Int) × qT36))
abbrev qY40 : Go.Lf.Ty := (.pr (.int .i64) (.pr .str qY38))
abbrev qY41 : Go.Lf.Ty := (.pr (.int .i64) (.pr (.st qY37) .unit))
abbrev qT42 : Type := ((List qT39) × ((Int) × (Unit)))
abbrev qT43 : Type := (((Int) × qT7) × (((Int) × qT7) × qT12))
abbrev qY44 : Go.Lf.Ty := (.st (.pr (.int .i64) qY40))
abbrev qY45 : Go.Lf.Ty := (.pr qY26 (.pr qY26 .unit))
abbrev qY46 : Go.Lf.Ty := (.pr (.sl qY44) (.pr (.int .i64) .unit))
abbrev qY47 : Go.Lf.Ty := (.pr (.sl (.st qY25)) (.pr (.int .i64) qY28))
abbrev qT48 : Type := ((List qT20) × ((List qT19) × qT23))
abbrev qY49 : Go.Lf.Ty := (.pr (.sl (.st qY5)) qY46)
abbrev qT50 : Type := (((Int) × qT7) × (((Int) × qT7) × qT43))
abbrev qT51 : Type := ((List qT9) × ((List qT9) × qT42))
abbrev qT52 : Type := ((List (UInt8)) × ((Int) × qT51))
abbrev qY53 : Go.Lf.Ty := (.pr (.sl (.st qY5)) qY49)
abbrev qT54 : Type := ((Int) × ((List (UInt8)) × qT52))
abbrev qY55 : Go.Lf.Ty := (.pr .str (.pr (.int .i64) qY53))
abbrev qY56 : Go.Lf.Ty := (.pr (.int .i64) (.pr .str qY55))
abbrev qT57 : Type := (((Int) × qT7) × (((Int) × qT7) × qT50))
abbrev qY58 : Go.Lf.Ty := (.pr qY26 (.pr qY26 qY45))
abbrev qY59 : Go.Lf.Ty := (.pr (.sl (.st qY56)) .unit)
abbrev qT60 : Type := (((Int) × qT7) × (((Int) × qT7) × qT57))
abbrev qY61 : Go.Lf.Ty := (.pr qY26 (.pr qY26 qY58))
abbrev qT62 : Type := (((Int) × qT7) × (((Int) × qT7) × qT60))
abbrev qT63 : Type := (((Int) × qT7) × (((Int) × qT7) × qT62))
abbrev qY64 : Go.Lf.Ty := (.pr qY26 (.pr qY26 qY61))
abbrev qT65 : Type := (((Int) × qT7) × (((Int) × qT7) × qT63))
abbrev qT66 : Type := (((Int) × qT7) × (((Int) × qT7) × qT65))
abbrev qY67 : Go.Lf.Ty := (.pr qY26 (.pr qY26 qY64))
abbrev qT68 : Type := (((Int) × qT7) × (((Int) × qT7) × qT66))
abbrev qT69 : Type := (((Int) × qT7) × (((Int) × qT7) × qT68))
abbrev qY70 : Go.Lf.Ty := (.pr qY26 (.pr qY26 qY67))
abbrev qT71 : Type := (((Int) × qT7) × (((Int) × qT7) × qT69))
abbrev qY72 : Go.Lf.Ty := (.pr qY26 (.pr qY26 qY70))
abbrev qT73 : Type := (((Int) × qT7) × (((Int) × qT7) × qT71))
abbrev qT74 : Type := ((((Int) × qT7) × qT73) × qT7)
abbrev qY75 : Go.Lf.Ty := (.pr qY26 (.pr qY26 qY72))
abbrev qY76 : Go.Lf.Ty := (.pr qY26 (.pr qY26 qY75))
abbrev qY77 : Go.Lf.Ty := (.pr qY26 (.pr qY26 qY76))
abbrev qY78 : Go.Lf.Ty := (.pr qY26 (.pr qY26 qY77))
abbrev qY79 : Go.Lf.Ty := (.pr qY26 (.pr qY26 qY78))
abbrev qY80 : Go.Lf.Ty := (.pr qY26 (.pr qY26 qY79))
abbrev qY81 : Go.Lf.Ty := (.st (.pr (.st qY80) qY18))
def Tys : List (Nat × Go.Lf.TyI) := [(2, ⟨(.int .i64), 0, 0⟩),
 (3, ⟨(.int .i64), 0, 0⟩),
 (4, ⟨.bool, 0, 0⟩),
 (5, ⟨(.int .u8), 0, 0⟩),
 (6, ⟨(.int .u8), 0, 0⟩),
 (7, ⟨(.st (.pr (.int .i64) (.pr (.int .i64) (.pr .bool (.pr (.int .u8) .unit))))), 0, 0⟩),
 (8, ⟨(.st (.pr (.int .i64) (.pr (.int .i64) (.pr .bool (.pr (.int .u8) .unit))))), 0, 0⟩),
 (9, ⟨.str, 0, 0⟩),
 (10, ⟨.str, 0, 0⟩),
 (11, ⟨.str, 0, 0⟩),
 (12, ⟨(.int .u64), 0, 0⟩),
 (13, ⟨(.st (.pr .str (.pr (.int .u64) .unit))), 0, 0⟩),
 (14, ⟨(.st (.pr .str (.pr (.int .u64) .unit))), 0, 0⟩),
 (21, ⟨(.int .i32), 0, 0⟩),
 (22, ⟨(.sl (.st (.pr (.sl qY0) qY59))), 33, 48⟩),
 (24, ⟨qY30, 39, 56⟩),
 (26, ⟨(.eb 180 (.st qY41)), 0, 0⟩),
 (30, ⟨(.sl qY0), 35, 24⟩),
 (31, ⟨(.sl (.st qY56)), 71, 128⟩),
 (32, ⟨(.st (.pr (.sl qY0) qY59)), 0, 0⟩),
 (33, ⟨(.st (.pr (.sl qY0) qY59)), 0, 0⟩),
 (34, ⟨qY0, 0, 0⟩),
 (35, ⟨qY0, 0, 0⟩),
 (36, ⟨qY11, 0, 0⟩),
 (37, ⟨qY11, 0, 0⟩),
 (38, ⟨(.st (.pr .str qY22)), 0, 0⟩),
 (39, ⟨(.st (.pr .str qY22)), 0, 0⟩),
 (42, ⟨(.int .i64), 0, 0⟩),
 (47, ⟨(.sl (.st qY17)), 61, 56⟩),
 (48, ⟨(.sl .str), 9, 16⟩),
 (52, ⟨(.sl (.st qY25)), 57, 64⟩),
 (56, ⟨(.st qY25), 0, 0⟩),
 (57, ⟨(.st qY25), 0, 0⟩),
 (58, ⟨(.int .i64), 0, 0⟩),
 (59, ⟨(.sl (.int .i64)), 3, 8⟩),
 (60, ⟨(.st qY17), 0, 0⟩),
 (61, ⟨(.st qY17), 0, 0⟩),
 (62, ⟨(.sl qY44), 111, 88⟩),
 (68, ⟨(.sl (.st qY5)), 240, 40⟩),
 (69, ⟨(.sl (.st qY5)), 242, 40⟩),
 (70, ⟨(.st qY56), 0, 0⟩),
 (71, ⟨(.st qY56), 0, 0⟩),
 (74, ⟨(.sl qY0), 150, 24⟩),
 (75, ⟨(.st qY37), 0, 0⟩),
 (76, ⟨(.st qY37), 0, 0⟩),
 (105, ⟨(.int .i64), 0, 0⟩),
 (106, ⟨(.int .i64), 0, 0⟩),
 (107, ⟨qY21, 0, 0⟩),
 (108, ⟨qY21, 0, 0⟩),
 (109, ⟨(.sl qY21), 108, 56⟩),
 (110, ⟨qY44, 0, 0⟩),
 (111, ⟨qY44, 0, 0⟩),
 (112, ⟨(.sl (.st qY37)), 76, 72⟩),
 (128, ⟨(.sl .bool), 4, 1⟩),
 (129, ⟨(.sl (.st (.pr .bool qY18))), 229, 40⟩),
 (130, ⟨(.st (.pr .bool (.pr (.sl .bool) qY34))), 0, 0⟩),
 (131, ⟨(.st (.pr .bool (.pr (.sl .bool) qY34))), 0, 0⟩),
 (132, ⟨(.st (.pr (.st (.pr .bool (.pr (.sl .bool) qY34))) .unit)), 0, 0⟩),
 (133, ⟨(.st (.pr (.st (.pr .bool (.pr (.sl .bool) qY34))) .unit)), 0, 0⟩),
 (141, ⟨(.st (.pr qY30 (.pr (.sl (.st qY25)) (.pr (.int .i64) (.pr (.sl (.st qY17)) .unit))))), 0, 0⟩),
 (154, ⟨qY21, 0, 0⟩),
 (162, ⟨qY26, 0, 0⟩),
 (163, ⟨(.st qY80), 162, 26⟩),
 (165, ⟨qY81, 0, 0⟩),
 (166, ⟨(.sl (.int .u8)), 5, 1⟩),
 (181, ⟨(.st qY41), 0, 0⟩),
 (182, ⟨(.st qY41), 0, 0⟩),
 (185, ⟨(.int .u64), 0, 0⟩),
 (180, ⟨(.ptr (.st qY41)), 0, 0⟩),
 (214, ⟨(.ptr qY26), 0, 0⟩)]
theorem Tys_ok : ∀ id i, Go.Lf.look Tys id = some i → Go.Lf.TyOk Go.Proofs.Tryz.prog id i := Go.Lf.tysB_ok (by kernel_rfl)
noncomputable def style_BaseCtx : Go.Lf.Ctx := ⟨27, Tys, [], [0, 3, 12, 26], [], [(0, qY32), (3, qY32), (12, qY32), (26, qY32)], []⟩
noncomputable def style_BaseCode : Go.Code := (Go.Proofs.Tryz.f43.body).getD .skip
def style_BaseAnn : Go.Lf.Ann := (.seq .no (.seq .no (.seq .no (.seq .no (.seq (.seq .no (.loop ⟨[2, 1, 8], [], [(9, (.int .i64)), (3, qY32)], [], []⟩ (.one (.ext 0) ⟨[], [], [(3, qY32)], [], []⟩) (.seq .no (.seq .no (.seq (.seq .no (.draw 11)) .no))))) .no)))))
noncomputable def style_Base  : Option (List qT20) :=
 (Go.Lf.loopC (σ := (Int) × (List qT20)) (κ := List qT20) (fun z1 =>
     bif (decide (z1.1 < (((List.length (((98 : UInt8) :: ([] : List (UInt8))) :: (((105 : UInt8) :: ([] : List (UInt8))) :: (((117 : UInt8) :: ([] : List (UInt8))) :: (((115 : UInt8) :: ([] : List (UInt8))) :: (((109 : UInt8) :: ([] : List (UInt8))) :: (((104 : UInt8) :: ([] : List (UInt8))) :: ([] : List (List (UInt8)))))))))) : Nat) : Int))) then ((Go.Lf.idx (((98 : UInt8) :: ([] : List (UInt8))) :: (((105 : UInt8) :: ([] : List (UInt8))) :: (((117 : UInt8) :: ([] : List (UInt8))) :: (((115 : UInt8) :: ([] : List (UInt8))) :: (((109 : UInt8) :: ([] : List (UInt8))) :: (((104 : UInt8) :: ([] : List (UInt8))) :: ([] : List (List (UInt8))))))))) z1.1)).bind fun r2 =>
     ((Go.Lf.idx ((1 : Int) :: ((2 : Int) :: ((4 : Int) :: ((8 : Int) :: ((16 : Int) :: ((5 : Int) :: ([] : List (Int)))))))) z1.1)).bind fun r3 =>
     ((Go.Lf.app (56 : Nat) z1.2 ((r2, (([] : List (UInt8)), ((r3, ((0 : Int), ((-(1 : Int)), ()))), ()))) :: ([] : List qT20)))).bind fun r4 =>
     some (.inl ((Go.IntKind.wrap .i64 (z1.1 + (1 : Int))), r4))
     else some (.inr z1.2)) ((0 : Int), ([] : List qT20)) : Option (List qT20)).bind fun r5 =>
 some r5
theorem style_Base_eq  : Go.Lf.fnE style_BaseCtx style_BaseCode style_BaseAnn [] [qY32] [.tmp 0] () = style_Base  := by kernel_rfl
noncomputable def style_BaseEnt : Nat × Go.Lf.Entry := (43, ⟨[], [qY32], fun _ => style_Base ⟩)
theorem style_Base_ok : Go.Lf.EntryOk Go.Proofs.Tryz.prog GG 43 style_BaseEnt.2 :=
  Go.Lf.fn_ok (c := style_BaseCtx) (code := style_BaseCode) (an := style_BaseAnn) (slots := [.tmp 0]) (fn := Go.Proofs.Tryz.f43) (by kernel_rfl) ⟨Tys_ok, Go.Lf.FnsOk.look .nil, Go.Lf.IpsOk.look .nil⟩ (by kernel_rfl) (by kernel_rfl) (by kernel_rfl) (by kernel_rfl) (by kernel_rfl) (Nat.le_of_ble_eq_true rfl) (by simp [Go.Lf.Ty.top]) (by simp [Go.Lf.Ty.top]) fun z r h => (style_Base_eq ).trans h
noncomputable def style_namedCtx : Go.Lf.Ctx := ⟨28, Tys, [], [], [], [], []⟩
noncomputable def style_namedCode : Go.Code := (Go.Proofs.Tryz.f52.body).getD .skip
def style_namedAnn : Go.Lf.Ann := (.seq .no (.seq (.seq (.join (.one .nrm ⟨[0], [], [(11, .bool)], [], []⟩) .no) .no) (.seq (.seq .no (.loop ⟨[0, 13], [], [(14, (.int .i64))], [], []⟩ (.more (.ext 0) ⟨[], [], [], [], []⟩ (.one .ret ⟨[], [], [(2, .bool)], [], []⟩)) (.seq .no (.seq .no (.seq (.seq .no (.seq (.join (.one .nrm ⟨[0, 13, 14], [], [(26, .bool)], [], []⟩) .no) .no)) .no))))) .no)))
noncomputable def style_named (a0 : List (UInt8)) : Option (Bool) :=
 (bif (!(decide ((((List.length a0) : Nat) : Int) < (1 : Int)))) then some (decide ((12 : Int) < (((List.length a0) : Nat) : Int)))
   else some true).bind fun r1 =>
 bif r1 then some false
 else (Go.Lf.loopC (σ := Int) (κ := (Unit) ⊕ (Bool)) (fun z2 =>
     bif (decide (z2 < (((List.length a0) : Nat) : Int))) then (((Go.Lf.idx a0 z2)).bind fun r3 =>
       bif (!(decide ((((UInt8.toNat r3) : Nat) : Int) < (97 : Int)))) then ((Go.Lf.idx a0 z2)).bind fun r4 =>
       some (decide ((122 : Int) < (((UInt8.toNat r4) : Nat) : Int)))
       else some true).bind fun r5 =>
     bif r5 then some (.inr (.inr false))
     else some (.inl (Go.IntKind.wrap .i64 (z2 + (1 : Int))))
     else some (.inr (.inl ()))) (0 : Int) : Option ((Unit) ⊕ (Bool))).bind fun r6 =>
 Go.Lf.onSum r6 (fun a7 =>
 some true) (fun b8 =>
 some b8)
theorem style_named_eq (a0 : List (UInt8)) : Go.Lf.fnE style_namedCtx style_namedCode style_namedAnn [.val .str] [.bool] [.tmp 2] (a0) = style_named a0 := by kernel_rfl
noncomputable def style_namedEnt : Nat × Go.Lf.Entry := (52, ⟨[.val .str], [.bool], fun z => style_named z⟩)
theorem style_named_ok : Go.Lf.EntryOk Go.Proofs.Tryz.prog GG 52 style_namedEnt.2 :=
  Go.Lf.fn_ok (c := style_namedCtx) (code := style_namedCode) (an := style_namedAnn) (slots := [.tmp 2]) (fn := Go.Proofs.Tryz.f52) (by kernel_rfl) ⟨Tys_ok, Go.Lf.FnsOk.look .nil, Go.Lf.IpsOk.look .nil⟩ (by kernel_rfl) (by kernel_rfl) (by kernel_rfl) (by kernel_rfl) (by kernel_rfl) (Nat.le_of_ble_eq_true rfl) (by simp [Go.Lf.Ty.top]) (by simp [Go.Lf.Ty.top]) fun z r h => (style_named_eq z).trans h
noncomputable def style_plainCtx : Go.Lf.Ctx := ⟨2, Tys, [], [], [], [], []⟩
noncomputable def style_plainCode : Go.Code := (Go.Proofs.Tryz.f84.body).getD .skip
def style_plainAnn : Go.Lf.Ann := .no
noncomputable def style_plain  : Option ((Int) × ((Int) × ((Int) × (Unit)))) :=
 some ((0 : Int), ((0 : Int), ((-(1 : Int)), ())))
theorem style_plain_eq  : Go.Lf.fnE style_plainCtx style_plainCode style_plainAnn [] [qY11] [.cell 0 37] () = style_plain  := by kernel_rfl
noncomputable def style_plainEnt : Nat × Go.Lf.Entry := (84, ⟨[], [qY11], fun _ => style_plain ⟩)
theorem style_plain_ok : Go.Lf.EntryOk Go.Proofs.Tryz.prog GG 84 style_plainEnt.2 :=
  Go.Lf.fn_ok (c := style_plainCtx) (code := style_plainCode) (an := style_plainAnn) (slots := [.cell 0 37]) (fn := Go.Proofs.Tryz.f84) (by kernel_rfl) ⟨Tys_ok, Go.Lf.FnsOk.look .nil, Go.Lf.IpsOk.look .nil⟩ (by kernel_rfl) (by kernel_rfl) (by kernel_rfl) (by kernel_rfl) (by kernel_rfl) (Nat.le_of_ble_eq_true rfl) (by simp [Go.Lf.Ty.top]) (by simp [Go.Lf.Ty.top]) fun z r h => (style_plain_eq ).trans h
noncomputable def style_colorCtx : Go.Lf.Ctx := ⟨35, Tys, [strconv_ItoaEnt, strconv_AtoiEnt], [9], [], [], []⟩
noncomputable def style_colorCode : Go.Code := (Go.Proofs.Tryz.f85.body).getD .skip
def style_colorAnn : Go.Lf.Ann := (.seq .no (.seq .no (.seq .no (.seq (.join (.one .nrm ⟨[], [], [(2, (.int .i64)), (3, .bool)], [], []⟩) (.draw 21)) .no))))
noncomputable def style_color (a0 : List (List (UInt8))) : Option ((Int) × (Bool)) :=
 bif (decide (((((List.length a0) : Nat) : Int) : Int) = (0 : Int))) then some ((0 : Int), false)
 else ((Go.Lf.idx a0 (0 : Int))).bind fun r1 =>
 ((Go.Fn.strconv_Atoi r1)).bind fun r2 =>
 (bif (Option.isNone r2.2) then bif (decide ((0 : Int) ≤ r2.1)) then bif (decide (r2.1 ≤ (15 : Int))) then ((Go.Fn.strconv_Itoa r2.1)).bind fun r3 =>
   ((Go.Lf.idx a0 (0 : Int))).bind fun r4 =>
   some (r2.1, (decide ((r3 : List (UInt8)) = r4)))
   else some (r2.1, false)
   else some (r2.1, false)
   else some (r2.1, false)).bind fun r5 =>
 some (r5.1, r5.2)
theorem style_color_eq (a0 : List (List (UInt8))) : Go.Lf.fnE style_colorCtx style_colorCode style_colorAnn [.val (.sl .str)] [(.int .i64), .bool] [.tmp 2, .tmp 3] (a0) = style_color a0 := by kernel_rfl
noncomputable def style_colorEnt : Nat × Go.Lf.Entry := (85, ⟨[.val (.sl .str)], [(.int .i64), .bool], fun z => style_color z⟩)
theorem style_color_ok : Go.Lf.EntryOk Go.Proofs.Tryz.prog GG 85 style_colorEnt.2 :=
  Go.Lf.fn_ok (c := style_colorCtx) (code := style_colorCode) (an := style_colorAnn) (slots := [.tmp 2, .tmp 3]) (fn := Go.Proofs.Tryz.f85) (by kernel_rfl) ⟨Tys_ok, Go.Lf.FnsOk.look (.con strconv_Itoa_ok (.con strconv_Atoi_ok .nil)), Go.Lf.IpsOk.look .nil⟩ (by kernel_rfl) (by kernel_rfl) (by kernel_rfl) (by kernel_rfl) (by kernel_rfl) (Nat.le_of_ble_eq_true rfl) (by simp [Go.Lf.Ty.top]) (by simp [Go.Lf.Ty.top]) fun z r h => (style_color_eq z).trans h
noncomputable def style_wordsCtx : Go.Lf.Ctx := ⟨18, Tys, [], [], [], [], []⟩
noncomputable def style_wordsCode : Go.Code := (Go.Proofs.Tryz.f123.body).getD .skip
def style_wordsAnn : Go.Lf.Ann := .no
noncomputable def style_words  : Option (List (List (UInt8))) :=
 ((Go.Lf.made (16 : Nat) ([] : List (UInt8)) (7 : Int) (7 : Int))).bind fun r1 =>
 ((Go.Lf.chk (List.length r1) (0 : Int))).bind fun r2 =>
 ((Go.Lf.nth r1 r2)).bind fun r3 =>
 ((Go.Lf.chk (List.length (List.set r1 r2 ((98 : UInt8) :: ((111 : UInt8) :: ((108 : UInt8) :: ((100 : UInt8) :: ([] : List (UInt8)))))))) (1 : Int))).bind fun r4 =>
 ((Go.Lf.nth (List.set r1 r2 ((98 : UInt8) :: ((111 : UInt8) :: ((108 : UInt8) :: ((100 : UInt8) :: ([] : List (UInt8))))))) r4)).bind fun r5 =>
 ((Go.Lf.chk (List.length (List.set (List.set r1 r2 ((98 : UInt8) :: ((111 : UInt8) :: ((108 : UInt8) :: ((100 : UInt8) :: ([] : List (UInt8))))))) r4 ((105 : UInt8) :: ((116 : UInt8) :: ((97 : UInt8) :: ((108 : UInt8) :: ((105 : UInt8) :: ((99 : UInt8) :: ([] : List (UInt8)))))))))) (2 : Int))).bind fun r6 =>
 ((Go.Lf.nth (List.set (List.set r1 r2 ((98 : UInt8) :: ((111 : UInt8) :: ((108 : UInt8) :: ((100 : UInt8) :: ([] : List (UInt8))))))) r4 ((105 : UInt8) :: ((116 : UInt8) :: ((97 : UInt8) :: ((108 : UInt8) :: ((105 : UInt8) :: ((99 : UInt8) :: ([] : List (UInt8))))))))) r6)).bind fun r7 =>
 ((Go.Lf.chk (List.length (List.set (List.set (List.set r1 r2 ((98 : UInt8) :: ((111 : UInt8) :: ((108 : UInt8) :: ((100 : UInt8) :: ([] : List (UInt8))))))) r4 ((105 : UInt8) :: ((116 : UInt8) :: ((97 : UInt8) :: ((108 : UInt8) :: ((105 : UInt8) :: ((99 : UInt8) :: ([] : List (UInt8))))))))) r6 ((117 : UInt8) :: ((110 : UInt8) :: ((100 : UInt8) :: ((101 : UInt8) :: ((114 : UInt8) :: ([] : List (UInt8))))))))) (3 : Int))).bind fun r8 =>
 ((Go.Lf.nth (List.set (List.set (List.set r1 r2 ((98 : UInt8) :: ((111 : UInt8) :: ((108 : UInt8) :: ((100 : UInt8) :: ([] : List (UInt8))))))) r4 ((105 : UInt8) :: ((116 : UInt8) :: ((97 : UInt8) :: ((108 : UInt8) :: ((105 : UInt8) :: ((99 : UInt8) :: ([] : List (UInt8))))))))) r6 ((117 : UInt8) :: ((110 : UInt8) :: ((100 : UInt8) :: ((101 : UInt8) :: ((114 : UInt8) :: ([] : List (UInt8)))))))) r8)).bind fun r9 =>
 ((Go.Lf.chk (List.length (List.set (List.set (List.set (List.set r1 r2 ((98 : UInt8) :: ((111 : UInt8) :: ((108 : UInt8) :: ((100 : UInt8) :: ([] : List (UInt8))))))) r4 ((105 : UInt8) :: ((116 : UInt8) :: ((97 : UInt8) :: ((108 : UInt8) :: ((105 : UInt8) :: ((99 : UInt8) :: ([] : List (UInt8))))))))) r6 ((117 : UInt8) :: ((110 : UInt8) :: ((100 : UInt8) :: ((101 : UInt8) :: ((114 : UInt8) :: ([] : List (UInt8)))))))) r8 ((115 : UInt8) :: ((116 : UInt8) :: ((114 : UInt8) :: ((105 : UInt8) :: ((107 : UInt8) :: ((101 : UInt8) :: ([] : List (UInt8)))))))))) (4 : Int))).bind fun r10 =>
 ((Go.Lf.nth (List.set (List.set (List.set (List.set r1 r2 ((98 : UInt8) :: ((111 : UInt8) :: ((108 : UInt8) :: ((100 : UInt8) :: ([] : List (UInt8))))))) r4 ((105 : UInt8) :: ((116 : UInt8) :: ((97 : UInt8) :: ((108 : UInt8) :: ((105 : UInt8) :: ((99 : UInt8) :: ([] : List (UInt8))))))))) r6 ((117 : UInt8) :: ((110 : UInt8) :: ((100 : UInt8) :: ((101 : UInt8) :: ((114 : UInt8) :: ([] : List (UInt8)))))))) r8 ((115 : UInt8) :: ((116 : UInt8) :: ((114 : UInt8) :: ((105 : UInt8) :: ((107 : UInt8) :: ((101 : UInt8) :: ([] : List (UInt8))))))))) r10)).bind fun r11 =>
 ((Go.Lf.chk (List.length (List.set (List.set (List.set (List.set (List.set r1 r2 ((98 : UInt8) :: ((111 : UInt8) :: ((108 : UInt8) :: ((100 : UInt8) :: ([] : List (UInt8))))))) r4 ((105 : UInt8) :: ((116 : UInt8) :: ((97 : UInt8) :: ((108 : UInt8) :: ((105 : UInt8) :: ((99 : UInt8) :: ([] : List (UInt8))))))))) r6 ((117 : UInt8) :: ((110 : UInt8) :: ((100 : UInt8) :: ((101 : UInt8) :: ((114 : UInt8) :: ([] : List (UInt8)))))))) r8 ((115 : UInt8) :: ((116 : UInt8) :: ((114 : UInt8) :: ((105 : UInt8) :: ((107 : UInt8) :: ((101 : UInt8) :: ([] : List (UInt8))))))))) r10 ((109 : UInt8) :: ((111 : UInt8) :: ((110 : UInt8) :: ((111 : UInt8) :: ([] : List (UInt8)))))))) (5 : Int))).bind fun r12 =>
 ((Go.Lf.nth (List.set (List.set (List.set (List.set (List.set r1 r2 ((98 : UInt8) :: ((111 : UInt8) :: ((108 : UInt8) :: ((100 : UInt8) :: ([] : List (UInt8))))))) r4 ((105 : UInt8) :: ((116 : UInt8) :: ((97 : UInt8) :: ((108 : UInt8) :: ((105 : UInt8) :: ((99 : UInt8) :: ([] : List (UInt8))))))))) r6 ((117 : UInt8) :: ((110 : UInt8) :: ((100 : UInt8) :: ((101 : UInt8) :: ((114 : UInt8) :: ([] : List (UInt8)))))))) r8 ((115 : UInt8) :: ((116 : UInt8) :: ((114 : UInt8) :: ((105 : UInt8) :: ((107 : UInt8) :: ((101 : UInt8) :: ([] : List (UInt8))))))))) r10 ((109 : UInt8) :: ((111 : UInt8) :: ((110 : UInt8) :: ((111 : UInt8) :: ([] : List (UInt8))))))) r12)).bind fun r13 =>
 ((Go.Lf.chk (List.length (List.set (List.set (List.set (List.set (List.set (List.set r1 r2 ((98 : UInt8) :: ((111 : UInt8) :: ((108 : UInt8) :: ((100 : UInt8) :: ([] : List (UInt8))))))) r4 ((105 : UInt8) :: ((116 : UInt8) :: ((97 : UInt8) :: ((108 : UInt8) :: ((105 : UInt8) :: ((99 : UInt8) :: ([] : List (UInt8))))))))) r6 ((117 : UInt8) :: ((110 : UInt8) :: ((100 : UInt8) :: ((101 : UInt8) :: ((114 : UInt8) :: ([] : List (UInt8)))))))) r8 ((115 : UInt8) :: ((116 : UInt8) :: ((114 : UInt8) :: ((105 : UInt8) :: ((107 : UInt8) :: ((101 : UInt8) :: ([] : List (UInt8))))))))) r10 ((109 : UInt8) :: ((111 : UInt8) :: ((110 : UInt8) :: ((111 : UInt8) :: ([] : List (UInt8))))))) r12 ((115 : UInt8) :: ((109 : UInt8) :: ((97 : UInt8) :: ((108 : UInt8) :: ((108 : UInt8) :: ([] : List (UInt8))))))))) (6 : Int))).bind fun r14 =>
 ((Go.Lf.nth (List.set (List.set (List.set (List.set (List.set (List.set r1 r2 ((98 : UInt8) :: ((111 : UInt8) :: ((108 : UInt8) :: ((100 : UInt8) :: ([] : List (UInt8))))))) r4 ((105 : UInt8) :: ((116 : UInt8) :: ((97 : UInt8) :: ((108 : UInt8) :: ((105 : UInt8) :: ((99 : UInt8) :: ([] : List (UInt8))))))))) r6 ((117 : UInt8) :: ((110 : UInt8) :: ((100 : UInt8) :: ((101 : UInt8) :: ((114 : UInt8) :: ([] : List (UInt8)))))))) r8 ((115 : UInt8) :: ((116 : UInt8) :: ((114 : UInt8) :: ((105 : UInt8) :: ((107 : UInt8) :: ((101 : UInt8) :: ([] : List (UInt8))))))))) r10 ((109 : UInt8) :: ((111 : UInt8) :: ((110 : UInt8) :: ((111 : UInt8) :: ([] : List (UInt8))))))) r12 ((115 : UInt8) :: ((109 : UInt8) :: ((97 : UInt8) :: ((108 : UInt8) :: ((108 : UInt8) :: ([] : List (UInt8)))))))) r14)).bind fun r15 =>
 some (List.set (List.set (List.set (List.set (List.set (List.set (List.set r1 r2 ((98 : UInt8) :: ((111 : UInt8) :: ((108 : UInt8) :: ((100 : UInt8) :: ([] : List (UInt8))))))) r4 ((105 : UInt8) :: ((116 : UInt8) :: ((97 : UInt8) :: ((108 : UInt8) :: ((105 : UInt8) :: ((99 : UInt8) :: ([] : List (UInt8))))))))) r6 ((117 : UInt8) :: ((110 : UInt8) :: ((100 : UInt8) :: ((101 : UInt8) :: ((114 : UInt8) :: ([] : List (UInt8)))))))) r8 ((115 : UInt8) :: ((116 : UInt8) :: ((114 : UInt8) :: ((105 : UInt8) :: ((107 : UInt8) :: ((101 : UInt8) :: ([] : List (UInt8))))))))) r10 ((109 : UInt8) :: ((111 : UInt8) :: ((110 : UInt8) :: ((111 : UInt8) :: ([] : List (UInt8))))))) r12 ((115 : UInt8) :: ((109 : UInt8) :: ((97 : UInt8) :: ((108 : UInt8) :: ((108 : UInt8) :: ([] : List (UInt8)))))))) r14 ((114 : UInt8) :: ((101 : UInt8) :: ((118 : UInt8) :: ((101 : UInt8) :: ((114 : UInt8) :: ((115 : UInt8) :: ((101 : UInt8) :: ([] : List (UInt8))))))))))
theorem style_words_eq  : Go.Lf.fnE style_wordsCtx style_wordsCode style_wordsAnn [] [(.sl .str)] [.tmp 0] () = style_words  := by kernel_rfl
noncomputable def style_wordsEnt : Nat × Go.Lf.Entry := (123, ⟨[], [(.sl .str)], fun _ => style_words ⟩)
theorem style_words_ok : Go.Lf.EntryOk Go.Proofs.Tryz.prog GG 123 style_wordsEnt.2 :=
  Go.Lf.fn_ok (c := style_wordsCtx) (code := style_wordsCode) (an := style_wordsAnn) (slots := [.tmp 0]) (fn := Go.Proofs.Tryz.f123) (by kernel_rfl) ⟨Tys_ok, Go.Lf.FnsOk.look .nil, Go.Lf.IpsOk.look .nil⟩ (by kernel_rfl) (by kernel_rfl) (by kernel_rfl) (by kernel_rfl) (by kernel_rfl) (Nat.le_of_ble_eq_true rfl) (by simp [Go.Lf.Ty.top]) (by simp [Go.Lf.Ty.top]) fun z r h => (style_words_eq ).trans h
noncomputable def style_attributeCtx : Go.Lf.Ctx := ⟨58, Tys, [style_wordsEnt], [], [], [], []⟩
noncomputable def style_attributeCode : Go.Code := (Go.Proofs.Tryz.f86.body).getD .skip
def style_attributeAnn : Go.Lf.Ann := (.seq .no (.seq (.seq .no (.loop ⟨[1, 7, 8], [(0, 0, [.i, .r, .r, .l], 2)], [(9, (.int .i64))], [(0, 39, (.st (.pr .str qY22)))], []⟩ (.more (.ext 0) ⟨[], [(0, 0, [.i, .r, .r, .l], 2)], [], [(0, 39, (.st (.pr .str qY22)))], []⟩ (.one .ret ⟨[], [(0, 0, [.i, .r, .r, .l], 2)], [(4, .bool)], [(0, 39, (.st (.pr .str qY22)))], []⟩)) (.seq .no (.seq .no (.seq (.join (.more .nrm ⟨[1, 7, 8, 9], [(0, 0, [.i, .r, .r, .l], 2)], [], [(0, 39, (.st (.pr .str qY22)))], []⟩ (.one .ret ⟨[], [(0, 0, [.i, .r, .r, .l], 2)], [(4, .bool)], [(0, 39, (.st (.pr .str qY22)))], []⟩)) (.seq .no (.seq (.seq (.join (.one .nrm ⟨[1, 7, 8, 9, 5], [(0, 0, [.i, .r, .r, .l], 2)], [(32, .bool)], [(0, 39, (.st (.pr .str qY22)))], []⟩) (.draw 19)) .no) (.seq .no (.seq .no (.cnd (.seq (.draw 9) .no) (.seq .no (.cnd (.seq (.draw 9) .no) .no)))))))) .no))))) .no))
noncomputable def style_attribute (a0 : (List (UInt8)) × ((List (UInt8)) × qT8)) (a1 : List (UInt8)) : Option ((Bool) × qT20) :=
 (Go.Fn.style_words).bind fun r1 =>
 (Go.Lf.loopC (σ := (Int) × qT20) (κ := qT20 ⊕ ((Bool) × qT20)) (fun z2 =>
     bif (decide (z2.1 < (((List.length r1) : Nat) : Int))) then (((Go.Lf.idx r1 z2.1)).bind fun r3 =>
       (((Go.Lf.sub a1 (1 : Int) (((List.length a1) : Nat) : Int))).bind fun r4 =>
         bif (!(decide ((r4 : List (UInt8)) ≠ r3))) then ((Go.Lf.nn z2.1 (Int.fdiv (Go.Lf.bits .or .i64 z2.2.2.2.1.1 z2.2.2.2.1.2.1) ((2 : Int) ^ (Min.min (Int.toNat z2.1) (64 : Nat)))))).bind fun r5 =>
         some ((decide (((Go.Lf.bits .and .i64 r5 (1 : Int)) : Int) = (1 : Int))), z2.2)
         else some (true, z2.2)).bind fun r6 =>
       bif r6.1 then some (.inl r6.2)
       else ((Go.Lf.idx a1 (0 : Int))).bind fun r7 =>
       bif (decide (((((UInt8.toNat r7) : Nat) : Int) : Int) = (43 : Int))) then ((Go.Lf.nn z2.1 (Go.IntKind.wrap .i64 ((1 : Int) * ((2 : Int) ^ (Min.min (Int.toNat z2.1) (64 : Nat))))))).bind fun r8 =>
       some (.inr (true, (r6.2.1, (r6.2.2.1, (((Go.Lf.bits .or .i64 r6.2.2.2.1.1 r8), r6.2.2.2.1.2), r6.2.2.2.2)))))
       else bif (decide (((((UInt8.toNat r7) : Nat) : Int) : Int) = (45 : Int))) then ((Go.Lf.nn z2.1 (Go.IntKind.wrap .i64 ((1 : Int) * ((2 : Int) ^ (Min.min (Int.toNat z2.1) (64 : Nat))))))).bind fun r9 =>
       some (.inr (true, (r6.2.1, (r6.2.2.1, ((r6.2.2.2.1.1, ((Go.Lf.bits .or .i64 r6.2.2.2.1.2.1 r9), r6.2.2.2.1.2.2)), r6.2.2.2.2)))))
       else some (.inl r6.2) : Option (qT20 ⊕ ((Bool) × qT20))).bind fun r10 =>
     Go.Lf.onSum r10 (fun a11 =>
     some (.inl ((Go.IntKind.wrap .i64 (z2.1 + (1 : Int))), a11))) (fun b12 =>
     some (.inr (.inr (b12.1, b12.2))))
     else some (.inr (.inl z2.2))) ((0 : Int), a0) : Option (qT20 ⊕ ((Bool) × qT20))).bind fun r13 =>
 Go.Lf.onSum r13 (fun a14 =>
 some (false, a14)) (fun b15 =>
 some (b15.1, b15.2))
theorem style_attribute_eq (a0 : (List (UInt8)) × ((List (UInt8)) × qT8)) (a1 : List (UInt8)) : Go.Lf.fnE style_attributeCtx style_attributeCode style_attributeAnn [.obj 39 (.st (.pr .str qY22)) (.st (.pr .str qY22)) [.i, .r, .r, .l], .val .str] [.bool] [.tmp 4] (a0, a1) = style_attribute a0 a1 := by kernel_rfl
noncomputable def style_attributeEnt : Nat × Go.Lf.Entry := (86, ⟨[.obj 39 (.st (.pr .str qY22)) (.st (.pr .str qY22)) [.i, .r, .r, .l], .val .str], [.bool], fun z => style_attribute z.1 z.2⟩)
theorem style_attribute_ok : Go.Lf.EntryOk Go.Proofs.Tryz.prog GG 86 style_attributeEnt.2 :=
  Go.Lf.fn_ok (c := style_attributeCtx) (code := style_attributeCode) (an := style_attributeAnn) (slots := [.tmp 4]) (fn := Go.Proofs.Tryz.f86) (by kernel_rfl) ⟨Tys_ok, Go.Lf.FnsOk.look (.con style_words_ok .nil), Go.Lf.IpsOk.look .nil⟩ (by kernel_rfl) (by kernel_rfl) (by kernel_rfl) (by kernel_rfl) (by kernel_rfl) (Nat.le_of_ble_eq_true rfl) (by simp [Go.Lf.Ty.top]) (by simp [Go.Lf.Ty.top]) fun z r h => (style_attribute_eq z.1 z.2).trans h
noncomputable def style_ParseCtx : Go.Lf.Ctx := ⟨88, Tys, [style_namedEnt, strings_FieldsFuncEnt, strings_CutEnt, style_plainEnt, style_colorEnt, style_attributeEnt], [], [], [], []⟩
noncomputable def style_ParseCode : Go.Code := (Go.Proofs.Tryz.f44.body).getD .skip
def style_ParseAnn : Go.Lf.Ann := (.seq .no (.seq .no (.seq .no (.seq .no (.seq .no (.seq (.seq (.join (.one .nrm ⟨[4, 6, 5], [(2, 2, [], 0)], [(40, .bool)], [(2, 39, (.st (.pr .str qY22)))], []⟩) .no) .no) (.seq .no (.seq (.seq .no (.loop ⟨[4], [(2, 2, [], 0), (8, 8, [], 0)], [(9, (.int .i64))], [(2, 39, (.st (.pr .str qY22))), (8, 39, (.st (.pr .str qY22)))], []⟩ (.more (.ext 0) ⟨[], [(2, 2, [], 0), (8, 8, [], 0)], [], [(2, 39, (.st (.pr .str qY22))), (8, 39, (.st (.pr .str qY22)))], []⟩ (.one .ret ⟨[], [(2, 2, [], 0)], [(3, (.int .i64))], [(2, 39, (.st (.pr .str qY22)))], []⟩)) (.seq .no (.seq (.join (.more .ret ⟨[], [(2, 2, [], 0)], [(3, (.int .i64))], [(2, 39, (.st (.pr .str qY22)))], []⟩ (.one .nrm ⟨[4], [(2, 2, [], 0), (8, 8, [], 0)], [(9, (.int .i64))], [(2, 39, (.st (.pr .str qY22))), (8, 39, (.st (.pr .str qY22)))], []⟩)) (.seq (.seq .no (.cnd (.seq .no (.seq (.seq (.join (.one .nrm ⟨[4, 9, 10], [(2, 2, [], 0), (8, 8, [], 0)], [(72, .bool)], [(2, 39, (.st (.pr .str qY22))), (8, 39, (.st (.pr .str qY22)))], []⟩) .no) .no) .no)) .no)) .no)) .no)))) .no))))))))
noncomputable def style_Parse (a0 : List (UInt8)) : Option (qT20 × (Int)) :=
 bif (decide ((4096 : Int) < (((List.length a0) : Nat) : Int))) then some ((([] : List (UInt8)), (([] : List (UInt8)), (((0 : Int), ((0 : Int), ((0 : Int), ()))), ()))), (2 : Int))
 else ((Go.Fn.strings_FieldsFunc a0 ())).bind fun r1 =>
 bif (decide (((((List.length r1) : Nat) : Int) : Int) = (0 : Int))) then some ((([] : List (UInt8)), (([] : List (UInt8)), (((0 : Int), ((0 : Int), ((0 : Int), ()))), ()))), (67 : Int))
 else ((Go.Lf.idx r1 (0 : Int))).bind fun r2 =>
 ((Go.Fn.strings_Cut r2 ((58 : UInt8) :: ([] : List (UInt8))))).bind fun r3 =>
 (((Go.Fn.style_named r3.1)).bind fun r4 =>
   bif (!(!r4)) then bif r3.2.2 then ((Go.Fn.style_named r3.2.1)).bind fun r5 =>
   some ((!r5), (([] : List (UInt8)), (([] : List (UInt8)), (((0 : Int), ((0 : Int), ((0 : Int), ()))), ()))))
   else some (false, (([] : List (UInt8)), (([] : List (UInt8)), (((0 : Int), ((0 : Int), ((0 : Int), ()))), ()))))
   else some (true, (([] : List (UInt8)), (([] : List (UInt8)), (((0 : Int), ((0 : Int), ((0 : Int), ()))), ()))))).bind fun r6 =>
 bif r6.1 then some ((([] : List (UInt8)), (([] : List (UInt8)), (((0 : Int), ((0 : Int), ((0 : Int), ()))), ()))), (67 : Int))
 else (Go.Fn.style_plain).bind fun r7 =>
 (Go.Lf.loopC (σ := (Int) × (qT20 × qT20)) (κ := (qT20 × qT20) ⊕ ((Int) × qT20)) (fun z8 =>
     bif (decide (z8.1 < (((List.length r1) : Nat) : Int))) then (((Go.Lf.idx r1 z8.1)).bind fun r9 =>
       bif (decide ((r9 : List (UInt8)) = ((99 : UInt8) :: ((111 : UInt8) :: ((108 : UInt8) :: ((111 : UInt8) :: ((114 : UInt8) :: ([] : List (UInt8))))))))) then ((Go.Lf.sub r1 (Go.IntKind.wrap .i64 (z8.1 + (1 : Int))) (((List.length r1) : Nat) : Int))).bind fun r10 =>
       ((Go.Fn.style_color r10)).bind fun r11 =>
       (bif (!(!r11.2)) then some ((decide ((z8.2.2.2.2.1.2.2.1 : Int) ≠ (-(1 : Int)))), (z8.2.1, z8.2.2))
         else some (true, (z8.2.1, z8.2.2))).bind fun r12 =>
       bif r12.1 then some (.inl ((67 : Int), (([] : List (UInt8)), (([] : List (UInt8)), (((0 : Int), ((0 : Int), ((0 : Int), ()))), ())))))
       else some (.inr ((Go.IntKind.wrap .i64 (z8.1 + (1 : Int))), (r12.2.1, (r12.2.2.1, (r12.2.2.2.1, ((r12.2.2.2.2.1.1, (r12.2.2.2.2.1.2.1, (r11.1, r12.2.2.2.2.1.2.2.2))), r12.2.2.2.2.2))))))
       else ((Go.Lf.idx r1 z8.1)).bind fun r13 =>
       ((Go.Fn.style_attribute z8.2.2 r13)).bind fun r14 =>
       bif (!r14.1) then some (.inl ((67 : Int), (([] : List (UInt8)), (([] : List (UInt8)), (((0 : Int), ((0 : Int), ((0 : Int), ()))), ())))))
       else some (.inr (z8.1, (z8.2.1, r14.2))) : Option (((Int) × qT20) ⊕ ((Int) × (qT20 × qT20)))).bind fun r15 =>
     Go.Lf.onSum r15 (fun a16 =>
     some (.inr (.inr (a16.1, a16.2)))) (fun b17 =>
     some (.inl ((Go.IntKind.wrap .i64 (b17.1 + (1 : Int))), (b17.2.1, b17.2.2))))
     else some (.inr (.inl (z8.2.1, z8.2.2)))) ((1 : Int), (r6.2, (r3.1, (r3.2.1, (r7, ()))))) : Option ((qT20 × qT20) ⊕ ((Int) × qT20))).bind fun r18 =>
 Go.Lf.onSum r18 (fun a19 =>
 some (a19.2, (0 : Int))) (fun b20 =>
 some (b20.2, b20.1))
theorem style_Parse_eq (a0 : List (UInt8)) : Go.Lf.fnE style_ParseCtx style_ParseCode style_ParseAnn [.val .str] [(.st (.pr .str qY22)), (.int .i64)] [.cell 2 39, .tmp 3] (a0) = style_Parse a0 := by kernel_rfl
noncomputable def style_ParseEnt : Nat × Go.Lf.Entry := (44, ⟨[.val .str], [(.st (.pr .str qY22)), (.int .i64)], fun z => style_Parse z⟩)
theorem style_Parse_ok : Go.Lf.EntryOk Go.Proofs.Tryz.prog GG 44 style_ParseEnt.2 :=
  Go.Lf.fn_ok (c := style_ParseCtx) (code := style_ParseCode) (an := style_ParseAnn) (slots := [.cell 2 39, .tmp 3]) (fn := Go.Proofs.Tryz.f44) (by kernel_rfl) ⟨Tys_ok, Go.Lf.FnsOk.look (.con style_named_ok (.con strings_FieldsFunc_ok (.con strings_Cut_ok (.con style_plain_ok (.con style_color_ok (.con style_attribute_ok .nil)))))), Go.Lf.IpsOk.look .nil⟩ (by kernel_rfl) (by kernel_rfl) (by kernel_rfl) (by kernel_rfl) (by kernel_rfl) (Nat.le_of_ble_eq_true rfl) (by simp [Go.Lf.Ty.top]) (by simp [Go.Lf.Ty.top]) fun z r h => (style_Parse_eq z).trans h
noncomputable def fault_NewCtx : Go.Lf.Ctx := ⟨22, Tys, [], [], [21], [], []⟩
noncomputable def fault_NewCode : Go.Code := (Go.Proofs.Tryz.f45.body).getD .skip
def fault_NewAnn : Go.Lf.Ann := .no
noncomputable def fault_New (a0 : Int) (a1 : Int) (a2 : Int) (a3 : Int) (a4 : List (UInt8)) : Option (Option qT35) :=
 bif (decide ((a0 : Int) = (0 : Int))) then some (none : Option qT35)
 else some (some ((1 : Int), ((a0, (a1, (a2, (a3, (a4, (([] : List ((List (UInt8)) × ((Int) × (Unit)))), ())))))), ())))
theorem fault_New_eq (a0 : Int) (a1 : Int) (a2 : Int) (a3 : Int) (a4 : List (UInt8)) : Go.Lf.fnE fault_NewCtx fault_NewCode fault_NewAnn [.val (.int .i64), .val (.int .i64), .val (.int .i64), .val (.int .i64), .val .str] [(.eb 180 (.st qY41))] [.tmp 10] (a0, a1, a2, a3, a4) = fault_New a0 a1 a2 a3 a4 := by kernel_rfl
noncomputable def fault_NewEnt : Nat × Go.Lf.Entry := (45, ⟨[.val (.int .i64), .val (.int .i64), .val (.int .i64), .val (.int .i64), .val .str], [(.eb 180 (.st qY41))], fun z => fault_New z.1 z.2.1 z.2.2.1 z.2.2.2.1 z.2.2.2.2⟩)
theorem fault_New_ok : Go.Lf.EntryOk Go.Proofs.Tryz.prog GG 45 fault_NewEnt.2 :=
  Go.Lf.fn_ok (c := fault_NewCtx) (code := fault_NewCode) (an := fault_NewAnn) (slots := [.tmp 10]) (fn := Go.Proofs.Tryz.f45) (by kernel_rfl) ⟨Tys_ok, Go.Lf.FnsOk.look .nil, Go.Lf.IpsOk.look .nil⟩ (by kernel_rfl) (by kernel_rfl) (by kernel_rfl) (by kernel_rfl) (by kernel_rfl) (Nat.le_of_ble_eq_true rfl) (by simp [Go.Lf.Ty.top]) (by simp [Go.Lf.Ty.top]) fun z r h => (fault_New_eq z.1 z.2.1 z.2.2.1 z.2.2.2.1 z.2.2.2.2).trans h
noncomputable def style_FindCtx : Go.Lf.Ctx := ⟨21, Tys, [], [], [], [], []⟩
noncomputable def style_FindCode : Go.Code := (Go.Proofs.Tryz.f53.body).getD .skip
def style_FindAnn : Go.Lf.Ann := (.seq .no (.seq (.seq .no (.loop ⟨[1, 0, 8], [], [(9, (.int .i64))], [], []⟩ (.more (.ext 0) ⟨[], [], [], [], []⟩ (.one .ret ⟨[], [], [(4, (.int .i64)), (5, .bool)], [], []⟩)) .no)) .no))
noncomputable def style_Find (a0 : List qT20) (a1 : List (UInt8)) : Option ((Int) × (Bool)) :=
 (Go.Lf.loopC (σ := Int) (κ := (Unit) ⊕ ((Int) × (Bool))) (fun z1 =>
     bif (decide (z1 < (((List.length a0) : Nat) : Int))) then ((Go.Lf.idx a0 z1)).bind fun r2 =>
     bif (decide ((r2.1 : List (UInt8)) = a1)) then some (.inr (.inr (z1, true)))
     else some (.inl (Go.IntKind.wrap .i64 (z1 + (1 : Int))))
     else some (.inr (.inl ()))) (0 : Int) : Option ((Unit) ⊕ ((Int) × (Bool)))).bind fun r3 =>
 Go.Lf.onSum r3 (fun a4 =>
 some ((0 : Int), false)) (fun b5 =>
 some (b5.1, b5.2))
theorem style_Find_eq (a0 : List qT20) (a1 : List (UInt8)) : Go.Lf.fnE style_FindCtx style_FindCode style_FindAnn [.val qY30, .val .str] [(.int .i64), .bool] [.tmp 4, .tmp 5] (a0, a1) = style_Find a0 a1 := by kernel_rfl
noncomputable def style_FindEnt : Nat × Go.Lf.Entry := (53, ⟨[.val qY30, .val .str], [(.int .i64), .bool], fun z => style_Find z.1 z.2⟩)
theorem style_Find_ok : Go.Lf.EntryOk Go.Proofs.Tryz.prog GG 53 style_FindEnt.2 :=
  Go.Lf.fn_ok (c := style_FindCtx) (code := style_FindCode) (an := style_FindAnn) (slots := [.tmp 4, .tmp 5]) (fn := Go.Proofs.Tryz.f53) (by kernel_rfl) ⟨Tys_ok, Go.Lf.FnsOk.look .nil, Go.Lf.IpsOk.look .nil⟩ (by kernel_rfl) (by kernel_rfl) (by kernel_rfl) (by kernel_rfl) (by kernel_rfl) (Nat.le_of_ble_eq_true rfl) (by simp [Go.Lf.Ty.top]) (by simp [Go.Lf.Ty.top]) fun z r h => (style_Find_eq z.1 z.2).trans h
noncomputable def style_changeCtx : Go.Lf.Ctx := ⟨41, Tys, [], [], [], [], []⟩
noncomputable def style_changeCode : Go.Code := (Go.Proofs.Tryz.f54.body).getD .skip
def style_changeAnn : Go.Lf.Ann := (.seq .no (.seq (.seq (.join (.one .nrm ⟨[], [(1, 1, [], 0)], [(3, .bool)], [(1, 37, qY11)], []⟩) .no) (.cnd .no (.seq (.join (.one .nrm ⟨[], [], [(32, .bool)], [], []⟩) .no) .no))) .no))
noncomputable def style_change (a0 : (Int) × ((Int) × ((Int) × (Unit)))) : Option (Int) :=
 (bif (!(decide (((Go.Lf.bits .andNot .i64 a0.1 (127 : Int)) : Int) ≠ (0 : Int)))) then bif (!(decide (((Go.Lf.bits .andNot .i64 a0.2.1 (127 : Int)) : Int) ≠ (0 : Int)))) then bif (!(decide (a0.1 < (0 : Int)))) then bif (!(decide (a0.2.1 < (0 : Int)))) then some ((decide (((Go.Lf.bits .and .i64 a0.1 a0.2.1) : Int) ≠ (0 : Int))), a0)
   else some (true, a0)
   else some (true, a0)
   else some (true, a0)
   else some (true, a0)).bind fun r1 =>
 bif r1.1 then some (62 : Int)
 else (bif (!(decide (r1.2.2.2.1 < (-(1 : Int))))) then some (decide ((15 : Int) < r1.2.2.2.1))
   else some true).bind fun r2 =>
 bif r2 then some (63 : Int)
 else some (0 : Int)
theorem style_change_eq (a0 : (Int) × ((Int) × ((Int) × (Unit)))) : Go.Lf.fnE style_changeCtx style_changeCode style_changeAnn [.val qY11] [(.int .i64)] [.tmp 2] (a0) = style_change a0 := by kernel_rfl
noncomputable def style_changeEnt : Nat × Go.Lf.Entry := (54, ⟨[.val qY11], [(.int .i64)], fun z => style_change z⟩)
theorem style_change_ok : Go.Lf.EntryOk Go.Proofs.Tryz.prog GG 54 style_changeEnt.2 :=
  Go.Lf.fn_ok (c := style_changeCtx) (code := style_changeCode) (an := style_changeAnn) (slots := [.tmp 2]) (fn := Go.Proofs.Tryz.f54) (by kernel_rfl) ⟨Tys_ok, Go.Lf.FnsOk.look .nil, Go.Lf.IpsOk.look .nil⟩ (by kernel_rfl) (by kernel_rfl) (by kernel_rfl) (by kernel_rfl) (by kernel_rfl) (Nat.le_of_ble_eq_true rfl) (by simp [Go.Lf.Ty.top]) (by simp [Go.Lf.Ty.top]) fun z r h => (style_change_eq z).trans h
noncomputable def style_endsCtx : Go.Lf.Ctx := ⟨33, Tys, [style_FindEnt], [], [], [], []⟩
noncomputable def style_endsCode : Go.Code := (Go.Proofs.Tryz.f55.body).getD .skip
def style_endsAnn : Go.Lf.Ann := (.seq .no (.seq .no (.seq .no (.seq (.seq .no (.loop ⟨[0], [], [(8, (.int .i64)), (1, (.int .i64)), (5, .bool)], [], []⟩ (.one (.ext 0) ⟨[], [], [(5, .bool)], [], []⟩) (.seq .no (.seq .no (.seq (.seq .no (.seq (.seq (.join (.one .nrm ⟨[0, 5, 8, 6], [], [(29, .bool)], [], []⟩) .no) .no) .no)) .no))))) .no))))
noncomputable def style_ends (a0 : List qT20) (a1 : Int) : Option (Bool) :=
 (Go.Lf.loopC (σ := (Int) × ((Int) × (Bool))) (κ := Bool) (fun z1 =>
     bif (decide (z1.1 < (8 : Int))) then ((Go.Lf.idx a0 z1.2.1)).bind fun r2 =>
     ((Go.Fn.style_Find a0 r2.2.1)).bind fun r3 =>
     (((Go.Lf.idx a0 z1.2.1)).bind fun r4 =>
       bif (!(decide ((r4.2.1 : List (UInt8)) = ([] : List (UInt8))))) then some (!r3.2)
       else some true).bind fun r5 =>
     bif r5 then some (.inr true)
     else some (.inl ((Go.IntKind.wrap .i64 (z1.1 + (1 : Int))), (r3.1, z1.2.2)))
     else some (.inr z1.2.2)) ((0 : Int), (a1, false)) : Option (Bool)).bind fun r6 =>
 some r6
theorem style_ends_eq (a0 : List qT20) (a1 : Int) : Go.Lf.fnE style_endsCtx style_endsCode style_endsAnn [.val qY30, .val (.int .i64)] [.bool] [.tmp 4] (a0, a1) = style_ends a0 a1 := by kernel_rfl
noncomputable def style_endsEnt : Nat × Go.Lf.Entry := (55, ⟨[.val qY30, .val (.int .i64)], [.bool], fun z => style_ends z.1 z.2⟩)
theorem style_ends_ok : Go.Lf.EntryOk Go.Proofs.Tryz.prog GG 55 style_endsEnt.2 :=
  Go.Lf.fn_ok (c := style_endsCtx) (code := style_endsCode) (an := style_endsAnn) (slots := [.tmp 4]) (fn := Go.Proofs.Tryz.f55) (by kernel_rfl) ⟨Tys_ok, Go.Lf.FnsOk.look (.con style_Find_ok .nil), Go.Lf.IpsOk.look .nil⟩ (by kernel_rfl) (by kernel_rfl) (by kernel_rfl) (by kernel_rfl) (by kernel_rfl) (Nat.le_of_ble_eq_true rfl) (by simp [Go.Lf.Ty.top]) (by simp [Go.Lf.Ty.top]) fun z r h => (style_ends_eq z.1 z.2).trans h
noncomputable def style_CheckCtx : Go.Lf.Ctx := ⟨73, Tys, [style_namedEnt, style_FindEnt, style_changeEnt, style_endsEnt], [], [], [], []⟩
noncomputable def style_CheckCode : Go.Code := (Go.Proofs.Tryz.f12.body).getD .skip
def style_CheckAnn : Go.Lf.Ann := (.seq .no (.seq .no (.seq (.seq .no (.loop ⟨[0, 16, 17], [], [(18, (.int .i64))], [], []⟩ (.more (.ext 0) ⟨[0], [], [], [], []⟩ (.one .ret ⟨[], [], [(2, (.int .i64)), (3, (.int .i64))], [], []⟩)) (.seq .no (.seq .no (.seq (.seq .no (.seq .no (.seq (.seq (.draw 11) .no) .no))) .no))))) (.seq (.seq .no (.loop ⟨[0, 47, 48], [], [(49, (.int .i64))], [], []⟩ (.more (.ext 2) ⟨[], [], [], [], []⟩ (.one .ret ⟨[], [], [(2, (.int .i64)), (3, (.int .i64))], [], []⟩)) (.seq .no (.seq .no (.seq (.join (.more .nrm ⟨[0, 47, 48, 49], [], [], [], []⟩ (.one .ret ⟨[], [], [(2, (.int .i64)), (3, (.int .i64))], [], []⟩)) .no) .no))))) .no))))
noncomputable def style_Check (a0 : List qT20) : Option ((Int) × (Int)) :=
 bif (decide ((64 : Int) < (((List.length a0) : Nat) : Int))) then some ((0 : Int), (2 : Int))
 else (Go.Lf.loopC (σ := Int) (κ := (Unit) ⊕ ((Int) × (Int))) (fun z1 =>
     bif (decide (z1 < (((List.length a0) : Nat) : Int))) then ((Go.Lf.idx a0 z1)).bind fun r2 =>
     ((Go.Fn.style_named r2.1)).bind fun r3 =>
     bif (!r3) then some (.inr (.inr (z1, (60 : Int))))
     else ((Go.Lf.sub a0 (0 : Int) z1)).bind fun r4 =>
     ((Go.Fn.style_Find r4 r2.1)).bind fun r5 =>
     bif r5.2 then some (.inr (.inr (z1, (61 : Int))))
     else ((Go.Fn.style_change r2.2.2.1)).bind fun r6 =>
     bif (decide ((r6 : Int) ≠ (0 : Int))) then some (.inr (.inr (z1, r6)))
     else some (.inl (Go.IntKind.wrap .i64 (z1 + (1 : Int))))
     else some (.inr (.inl ()))) (0 : Int) : Option ((Unit) ⊕ ((Int) × (Int)))).bind fun r7 =>
 Go.Lf.onSum r7 (fun a8 =>
 (Go.Lf.loopC (σ := Int) (κ := (Unit) ⊕ ((Int) × (Int))) (fun z9 =>
     bif (decide (z9 < (((List.length a0) : Nat) : Int))) then (((Go.Lf.idx a0 z9)).bind fun r10 =>
       bif (decide ((r10.2.1 : List (UInt8)) = ([] : List (UInt8)))) then some (.inl ())
       else ((Go.Fn.style_Find a0 r10.2.1)).bind fun r11 =>
       bif (!r11.2) then some (.inr (z9, (64 : Int)))
       else ((Go.Fn.style_ends a0 z9)).bind fun r12 =>
       bif (!r12) then some (.inr (z9, (65 : Int)))
       else some (.inl ()) : Option ((Unit) ⊕ ((Int) × (Int)))).bind fun r13 =>
     Go.Lf.onSum r13 (fun a14 =>
     some (.inl (Go.IntKind.wrap .i64 (z9 + (1 : Int))))) (fun b15 =>
     some (.inr (.inr (b15.1, b15.2))))
     else some (.inr (.inl ()))) (0 : Int) : Option ((Unit) ⊕ ((Int) × (Int)))).bind fun r16 =>
 Go.Lf.onSum r16 (fun a17 =>
 some ((0 : Int), (0 : Int))) (fun b18 =>
 some (b18.1, b18.2))) (fun b19 =>
 some (b19.1, b19.2))
theorem style_Check_eq (a0 : List qT20) : Go.Lf.fnE style_CheckCtx style_CheckCode style_CheckAnn [.val qY30] [(.int .i64), (.int .i64)] [.tmp 2, .tmp 3] (a0) = style_Check a0 := by kernel_rfl
noncomputable def style_CheckEnt : Nat × Go.Lf.Entry := (12, ⟨[.val qY30], [(.int .i64), (.int .i64)], fun z => style_Check z⟩)
theorem style_Check_ok : Go.Lf.EntryOk Go.Proofs.Tryz.prog GG 12 style_CheckEnt.2 :=
  Go.Lf.fn_ok (c := style_CheckCtx) (code := style_CheckCode) (an := style_CheckAnn) (slots := [.tmp 2, .tmp 3]) (fn := Go.Proofs.Tryz.f12) (by kernel_rfl) ⟨Tys_ok, Go.Lf.FnsOk.look (.con style_named_ok (.con style_Find_ok (.con style_change_ok (.con style_ends_ok .nil)))), Go.Lf.IpsOk.look .nil⟩ (by kernel_rfl) (by kernel_rfl) (by kernel_rfl) (by kernel_rfl) (by kernel_rfl) (Nat.le_of_ble_eq_true rfl) (by simp [Go.Lf.Ty.top]) (by simp [Go.Lf.Ty.top]) fun z r h => (style_Check_eq z).trans h
noncomputable def fault_CodeCtx : Go.Lf.Ctx := ⟨5, Tys, [fault_NewEnt], [], [], [], []⟩
noncomputable def fault_CodeCode : Go.Code := (Go.Proofs.Tryz.f46.body).getD .skip
def fault_CodeAnn : Go.Lf.Ann := .no
noncomputable def fault_Code (a0 : Int) : Option (Option qT35) :=
 ((Go.Fn.fault_New a0 (0 : Int) (0 : Int) (0 : Int) ([] : List (UInt8)))).bind fun r1 =>
 some r1
theorem fault_Code_eq (a0 : Int) : Go.Lf.fnE fault_CodeCtx fault_CodeCode fault_CodeAnn [.val (.int .i64)] [(.eb 180 (.st qY41))] [.tmp 2] (a0) = fault_Code a0 := by kernel_rfl
noncomputable def fault_CodeEnt : Nat × Go.Lf.Entry := (46, ⟨[.val (.int .i64)], [(.eb 180 (.st qY41))], fun z => fault_Code z⟩)
theorem fault_Code_ok : Go.Lf.EntryOk Go.Proofs.Tryz.prog GG 46 fault_CodeEnt.2 :=
  Go.Lf.fn_ok (c := fault_CodeCtx) (code := fault_CodeCode) (an := fault_CodeAnn) (slots := [.tmp 2]) (fn := Go.Proofs.Tryz.f46) (by kernel_rfl) ⟨Tys_ok, Go.Lf.FnsOk.look (.con fault_New_ok .nil), Go.Lf.IpsOk.look .nil⟩ (by kernel_rfl) (by kernel_rfl) (by kernel_rfl) (by kernel_rfl) (by kernel_rfl) (Nat.le_of_ble_eq_true rfl) (by simp [Go.Lf.Ty.top]) (by simp [Go.Lf.Ty.top]) fun z r h => (fault_Code_eq z).trans h
noncomputable def ir_SheetCtx : Go.Lf.Ctx := ⟨97, Tys, [style_CheckEnt, style_BaseEnt, style_ParseEnt, fault_NewEnt, fault_CodeEnt], [2, 4, 6, 48, 52, 69], [], [(2, qY32), (4, qY32), (6, (.rw 76 (.st qY37))), (48, qY32), (52, (.rw 76 (.st qY37))), (69, qY32)], []⟩
noncomputable def ir_SheetCode : Go.Code := (Go.Proofs.Tryz.f9.body).getD .skip
def ir_SheetAnn : Go.Lf.Ann := (.seq .no (.seq .no (.seq .no (.seq .no (.seq (.seq .no (.loop ⟨[19, 5, 20], [], [(6, (.rw 76 (.st qY37))), (4, qY32), (21, (.int .i64))], [], []⟩ (.more (.ext 0) ⟨[5], [], [(4, qY32), (6, (.rw 76 (.st qY37)))], [], []⟩ (.one .ret ⟨[], [], [(2, qY32), (3, (.eb 180 (.st qY41)))], [], []⟩)) (.seq .no (.seq .no (.seq (.seq .no (.seq .no (.loop ⟨[7, 27, 19, 5, 20, 21, 28], [], [(29, (.int .i64)), (6, (.rw 76 (.st qY37))), (4, qY32)], [], []⟩ (.more (.ext 2) ⟨[19, 5, 20, 21], [], [(6, (.rw 76 (.st qY37))), (4, qY32)], [], []⟩ (.one .ret ⟨[], [], [(2, qY32), (3, (.eb 180 (.st qY41)))], [], []⟩)) .no))) .no))))) (.seq .no (.seq (.seq .no (.cnd .no (.seq (.join (.one .nrm ⟨[14, 13, 5], [], [(70, .bool), (4, qY32), (6, (.rw 76 (.st qY37)))], [], []⟩) .no) .no))) (.seq .no (.seq (.draw 10) .no)))))))))
noncomputable def ir_Sheet (a0 : List (qT3 × ((List qT54) × (Unit)))) : Option ((List qT20) × (Option qT35)) :=
 (Go.Fn.style_Base).bind fun r1 =>
 (Go.Lf.loopC (σ := (List qT31) × ((List qT20) × (Int))) (κ := ((List qT20) × (List qT31)) ⊕ ((List qT20) × (Option qT35))) (fun z2 =>
     bif (decide (z2.2.2 < (((List.length a0) : Nat) : Int))) then ((Go.Lf.idx a0 z2.2.2)).bind fun r3 =>
     (Go.Lf.loopC (σ := (Int) × ((List qT31) × (List qT20))) (κ := ((List qT31) × (List qT20)) ⊕ ((List qT20) × (Option qT35))) (fun z4 =>
         bif (decide (z4.1 < (((List.length r3.1) : Nat) : Int))) then ((Go.Lf.idx r3.1 z4.1)).bind fun r5 =>
         ((Go.Fn.style_Parse r5.1)).bind fun r6 =>
         bif (decide ((r6.2 : Int) ≠ (0 : Int))) then ((Go.Fn.fault_New r6.2 z2.2.2 r5.2.1 (0 : Int) r5.1)).bind fun r7 =>
         some (.inr (.inr (([] : List qT20), r7)))
         else ((Go.Lf.app (56 : Nat) z4.2.2 (r6.1 :: ([] : List qT20)))).bind fun r8 =>
         ((Go.Lf.app (72 : Nat) z4.2.1 (((0 : Int), (z2.2.2, (r5.2.1, ((0 : Int), (([] : List (UInt8)), (([] : List ((List (UInt8)) × ((Int) × (Unit)))), ())))))) :: ([] : List qT31)))).bind fun r9 =>
         some (.inl ((Go.IntKind.wrap .i64 (z4.1 + (1 : Int))), (r9, r8)))
         else some (.inr (.inl (z4.2.1, z4.2.2)))) ((0 : Int), (z2.1, z2.2.1)) : Option (((List qT31) × (List qT20)) ⊕ ((List qT20) × (Option qT35)))).bind fun r10 =>
     Go.Lf.onSum r10 (fun a11 =>
     some (.inl (a11.1, (a11.2, (Go.IntKind.wrap .i64 (z2.2.2 + (1 : Int))))))) (fun b12 =>
     some (.inr (.inr (b12.1, b12.2))))
     else some (.inr (.inl (z2.2.1, z2.1)))) (([] : List qT31), (r1, (0 : Int))) : Option (((List qT20) × (List qT31)) ⊕ ((List qT20) × (Option qT35)))).bind fun r13 =>
 Go.Lf.onSum r13 (fun a14 =>
 ((Go.Fn.style_Check a14.1)).bind fun r15 =>
 bif (decide ((r15.2 : Int) = (0 : Int))) then some (a14.1, (none : Option qT35))
 else (bif (!(decide ((r15.2 : Int) = (2 : Int)))) then some ((decide (r15.1 < (((List.length r1) : Nat) : Int))), (a14.1, a14.2))
   else some (true, (a14.1, a14.2))).bind fun r16 =>
 bif r16.1 then (((Go.Fn.fault_New r15.2 (0 : Int) (0 : Int) (0 : Int) ([] : List (UInt8)))).bind fun r17 =>
   some r17).bind fun r18 =>
 some (([] : List qT20), r18)
 else ((Go.Lf.idx r16.2.2 (Go.IntKind.wrap .i64 (r15.1 - (((List.length r1) : Nat) : Int))))).bind fun r19 =>
 ((Go.Lf.idx r16.2.1 r15.1)).bind fun r20 =>
 ((Go.Fn.fault_New r15.2 r19.2.1 r19.2.2.1 (0 : Int) r20.1)).bind fun r21 =>
 some (([] : List qT20), r21)) (fun b22 =>
 some (b22.1, b22.2))
theorem ir_Sheet_eq (a0 : List (qT3 × ((List qT54) × (Unit)))) : Go.Lf.fnE ir_SheetCtx ir_SheetCode ir_SheetAnn [.val (.sl (.st (.pr (.sl qY0) qY59)))] [qY32, (.eb 180 (.st qY41))] [.tmp 2, .tmp 3] (a0) = ir_Sheet a0 := by kernel_rfl
noncomputable def ir_SheetEnt : Nat × Go.Lf.Entry := (9, ⟨[.val (.sl (.st (.pr (.sl qY0) qY59)))], [qY32, (.eb 180 (.st qY41))], fun z => ir_Sheet z⟩)
theorem ir_Sheet_ok : Go.Lf.EntryOk Go.Proofs.Tryz.prog GG 9 ir_SheetEnt.2 :=
  Go.Lf.fn_ok (c := ir_SheetCtx) (code := ir_SheetCode) (an := ir_SheetAnn) (slots := [.tmp 2, .tmp 3]) (fn := Go.Proofs.Tryz.f9) (by kernel_rfl) ⟨Tys_ok, Go.Lf.FnsOk.look (.con style_Check_ok (.con style_Base_ok (.con style_Parse_ok (.con fault_New_ok (.con fault_Code_ok .nil))))), Go.Lf.IpsOk.look .nil⟩ (by kernel_rfl) (by kernel_rfl) (by kernel_rfl) (by kernel_rfl) (by kernel_rfl) (Nat.le_of_ble_eq_true rfl) (by simp [Go.Lf.Ty.top]) (by simp [Go.Lf.Ty.top]) fun z r h => (ir_Sheet_eq z).trans h
noncomputable def ir_lowerer__putCtx : Go.Lf.Ctx := ⟨53, Tys, [], [47], [], [(47, (.rw 61 (.st qY17)))], []⟩
noncomputable def ir_lowerer__putCode : Go.Code := (Go.Proofs.Tryz.f95.body).getD .skip
def ir_lowerer__putAnn : Go.Lf.Ann := (.seq .no (.seq (.seq .no (.seq (.join (.one .nrm ⟨[4], [(0, 0, [], 0), (3, 3, [], 0)], [(28, .bool)], [(0, 141, (.st (.pr qY30 qY47))), (3, 61, (.st qY17))], []⟩) .no) (.cnd (.seq (.draw 14) .no) .no))) (.soup 7)))
noncomputable def ir_lowerer__put (a0 : (List qT20) × ((List qT19) × qT23)) (a1 : (Int) × ((Int) × qT4)) : Option qT48 :=
 (bif (decide ((a1.1 : Int) = (1 : Int))) then bif (decide ((0 : Int) < (((List.length a0.2.2.2.1) : Nat) : Int))) then ((Go.Lf.chk (List.length a0.2.2.2.1) (Go.IntKind.wrap .i64 ((((List.length a0.2.2.2.1) : Nat) : Int) - (1 : Int))))).bind fun r1 =>
   ((Go.Lf.nth a0.2.2.2.1 r1)).bind fun r2 =>
   some ((decide ((r2.1 : Int) = (1 : Int))), (a0, a1))
   else some (false, (a0, a1))
   else some (false, (a0, a1))).bind fun r3 =>
 bif r3.1 then ((Go.Lf.chk (List.length r3.2.1.2.2.2.1) (Go.IntKind.wrap .i64 ((((List.length a0.2.2.2.1) : Nat) : Int) - (1 : Int))))).bind fun r4 =>
 ((Go.Lf.nth r3.2.1.2.2.2.1 r4)).bind fun r5 =>
 ((Go.Lf.cat r5.2.2.1 r3.2.2.2.2.1)).bind fun r6 =>
 ((Go.Lf.chk (List.length r3.2.1.2.2.2.1) (Go.IntKind.wrap .i64 ((((List.length a0.2.2.2.1) : Nat) : Int) - (1 : Int))))).bind fun r7 =>
 ((Go.Lf.nth r3.2.1.2.2.2.1 r7)).bind fun r8 =>
 some (r3.2.1.1, (r3.2.1.2.1, (r3.2.1.2.2.1, ((List.set r3.2.1.2.2.2.1 r7 (r8.1, (r8.2.1, (r6, r8.2.2.2)))), r3.2.1.2.2.2.2))))
 else ((Go.Lf.app (56 : Nat) r3.2.1.2.2.2.1 (r3.2.2 :: ([] : List ((Int) × ((Int) × qT4)))))).bind fun r9 =>
 some (r3.2.1.1, (r3.2.1.2.1, (r3.2.1.2.2.1, (r9, r3.2.1.2.2.2.2))))
theorem ir_lowerer__put_eq (a0 : (List qT20) × ((List qT19) × qT23)) (a1 : (Int) × ((Int) × qT4)) : Go.Lf.fnE ir_lowerer__putCtx ir_lowerer__putCode ir_lowerer__putAnn [.obj 141 (.st (.pr qY30 qY47)) (.st (.pr qY30 qY47)) [], .val (.st qY17)] [] [] (a0, a1) = ir_lowerer__put a0 a1 := by kernel_rfl
noncomputable def ir_lowerer__putEnt : Nat × Go.Lf.Entry := (95, ⟨[.obj 141 (.st (.pr qY30 qY47)) (.st (.pr qY30 qY47)) [], .val (.st qY17)], [], fun z => ir_lowerer__put z.1 z.2⟩)
theorem ir_lowerer__put_ok : Go.Lf.EntryOk Go.Proofs.Tryz.prog GG 95 ir_lowerer__putEnt.2 :=
  Go.Lf.fn_ok (c := ir_lowerer__putCtx) (code := ir_lowerer__putCode) (an := ir_lowerer__putAnn) (slots := []) (fn := Go.Proofs.Tryz.f95) (by kernel_rfl) ⟨Tys_ok, Go.Lf.FnsOk.look .nil, Go.Lf.IpsOk.look .nil⟩ (by kernel_rfl) (by kernel_rfl) (by kernel_rfl) (by kernel_rfl) (by kernel_rfl) (Nat.le_of_ble_eq_true rfl) (by simp [Go.Lf.Ty.top]) (by simp [Go.Lf.Ty.top]) fun z r h => (ir_lowerer__put_eq z.1 z.2).trans h
noncomputable def names_NormCtx : Go.Lf.Ctx := ⟨22, Tys, [text_PlainEnt, text_FoldEnt], [], [], [], []⟩
noncomputable def names_NormCode : Go.Code := (Go.Proofs.Tryz.f154.body).getD .skip
def names_NormAnn : Go.Lf.Ann := .no
noncomputable def names_Norm (a0 : List (UInt8)) : Option ((List (UInt8)) × (Int)) :=
 bif (decide ((64 : Int) < (((List.length a0) : Nat) : Int))) then some (([] : List (UInt8)), (2 : Int))
 else ((Go.Fn.text_Plain a0)).bind fun r1 =>
 bif (!r1.2) then some (([] : List (UInt8)), (70 : Int))
 else ((Go.Fn.text_Fold a0)).bind fun r2 =>
 bif (decide ((r2 : List (UInt8)) = ([] : List (UInt8)))) then some (([] : List (UInt8)), (70 : Int))
 else some (r2, (0 : Int))
theorem names_Norm_eq (a0 : List (UInt8)) : Go.Lf.fnE names_NormCtx names_NormCode names_NormAnn [.val .str] [.str, (.int .i64)] [.tmp 2, .tmp 3] (a0) = names_Norm a0 := by kernel_rfl
noncomputable def names_NormEnt : Nat × Go.Lf.Entry := (154, ⟨[.val .str], [.str, (.int .i64)], fun z => names_Norm z⟩)
theorem names_Norm_ok : Go.Lf.EntryOk Go.Proofs.Tryz.prog GG 154 names_NormEnt.2 :=
  Go.Lf.fn_ok (c := names_NormCtx) (code := names_NormCode) (an := names_NormAnn) (slots := [.tmp 2, .tmp 3]) (fn := Go.Proofs.Tryz.f154) (by kernel_rfl) ⟨Tys_ok, Go.Lf.FnsOk.look (.con text_Plain_ok (.con text_Fold_ok .nil)), Go.Lf.IpsOk.look .nil⟩ (by kernel_rfl) (by kernel_rfl) (by kernel_rfl) (by kernel_rfl) (by kernel_rfl) (Nat.le_of_ble_eq_true rfl) (by simp [Go.Lf.Ty.top]) (by simp [Go.Lf.Ty.top]) fun z r h => (names_Norm_eq z).trans h
noncomputable def ir_lowerer__targetCtx : Go.Lf.Ctx := ⟨58, Tys, [fault_NewEnt, ir_lowerer__putEnt, names_NormEnt], [], [], [], []⟩
noncomputable def ir_lowerer__targetCode : Go.Code := (Go.Proofs.Tryz.f129.body).getD .skip
def ir_lowerer__targetAnn : Go.Lf.Ann := (.seq .no (.seq .no (.seq (.seq .no (.loop ⟨[2, 3, 9, 10, 22, 23], [(0, 0, [], 0), (5, 5, [], 0)], [(24, (.int .i64))], [(0, 141, (.st (.pr qY30 qY47))), (5, 108, qY21)], []⟩ (.more (.ext 0) ⟨[], [(0, 0, [], 0), (5, 5, [], 0)], [], [(0, 141, (.st (.pr qY30 qY47))), (5, 108, qY21)], []⟩ (.one .ret ⟨[], [(0, 0, [], 0)], [(8, (.eb 180 (.st qY41)))], [(0, 141, (.st (.pr qY30 qY47)))], []⟩)) (.seq .no (.seq .no (.seq (.seq .no (.seq (.seq (.join (.one .nrm ⟨[2, 3, 9, 10, 22, 23, 24, 11], [(0, 0, [], 0), (5, 5, [], 0), (12, 12, [], 0)], [(36, .bool)], [(0, 141, (.st (.pr qY30 qY47))), (5, 108, qY21), (12, 57, (.st qY25))], []⟩) .no) .no) .no)) .no))))) (.seq (.draw 10) .no))))
noncomputable def ir_lowerer__target (a0 : (List qT20) × ((List qT19) × qT23)) (a1 : (Int) × ((List (UInt8)) × qT6)) (a2 : Int) (a3 : Int) : Option ((Option qT35) × qT48) :=
 ((Go.Fn.names_Norm a1.2.2.1)).bind fun r1 =>
 (Go.Lf.loopC (σ := (Int) × (qT48 × qT16)) (κ := (qT48 × qT16) ⊕ ((Option qT35) × qT48)) (fun z2 =>
     bif (decide (z2.1 < (((List.length a0.2.1) : Nat) : Int))) then ((Go.Lf.idx a0.2.1 z2.1)).bind fun r3 =>
     (bif (!(decide ((r1.2 : Int) ≠ (0 : Int)))) then some ((decide ((r3.2.1 : List (UInt8)) ≠ r1.1)), (z2.2.1, (z2.2.2, r3)))
       else some (true, (z2.2.1, (z2.2.2, r3)))).bind fun r4 =>
     bif r4.1 then some (.inl ((Go.IntKind.wrap .i64 (z2.1 + (1 : Int))), (r4.2.1, r4.2.2.1)))
     else bif (decide ((r4.2.2.2.2.2.2.2.1 : Int) ≠ a3)) then some (.inr (.inl (r4.2.1, r4.2.2.1)))
     else ((Go.Fn.ir_lowerer__put r4.2.1 (a2, (z2.1, (([] : List (UInt8)), (([] : List (Int)), ())))))).bind fun r5 =>
     some (.inr (.inr ((none : Option qT35), r5)))
     else some (.inr (.inl (z2.2.1, z2.2.2)))) ((0 : Int), (a0, a1)) : Option ((qT48 × qT16) ⊕ ((Option qT35) × qT48))).bind fun r6 =>
 Go.Lf.onSum r6 (fun a7 =>
 ((Go.Fn.fault_New (111 : Int) a7.1.2.2.1 a7.2.2.2.2.1 a7.2.2.2.2.2.1 a7.2.2.2.1)).bind fun r8 =>
 some (r8, a7.1)) (fun b9 =>
 some (b9.1, b9.2))
theorem ir_lowerer__target_eq (a0 : (List qT20) × ((List qT19) × qT23)) (a1 : (Int) × ((List (UInt8)) × qT6)) (a2 : Int) (a3 : Int) : Go.Lf.fnE ir_lowerer__targetCtx ir_lowerer__targetCode ir_lowerer__targetAnn [.obj 141 (.st (.pr qY30 qY47)) (.st (.pr qY30 qY47)) [], .val qY21, .val (.int .i64), .val (.int .i64)] [(.eb 180 (.st qY41))] [.tmp 8] (a0, a1, a2, a3) = ir_lowerer__target a0 a1 a2 a3 := by kernel_rfl
noncomputable def ir_lowerer__targetEnt : Nat × Go.Lf.Entry := (129, ⟨[.obj 141 (.st (.pr qY30 qY47)) (.st (.pr qY30 qY47)) [], .val qY21, .val (.int .i64), .val (.int .i64)], [(.eb 180 (.st qY41))], fun z => ir_lowerer__target z.1 z.2.1 z.2.2.1 z.2.2.2⟩)
theorem ir_lowerer__target_ok : Go.Lf.EntryOk Go.Proofs.Tryz.prog GG 129 ir_lowerer__targetEnt.2 :=
  Go.Lf.fn_ok (c := ir_lowerer__targetCtx) (code := ir_lowerer__targetCode) (an := ir_lowerer__targetAnn) (slots := [.tmp 8]) (fn := Go.Proofs.Tryz.f129) (by kernel_rfl) ⟨Tys_ok, Go.Lf.FnsOk.look (.con fault_New_ok (.con ir_lowerer__put_ok (.con names_Norm_ok .nil))), Go.Lf.IpsOk.look .nil⟩ (by kernel_rfl) (by kernel_rfl) (by kernel_rfl) (by kernel_rfl) (by kernel_rfl) (Nat.le_of_ble_eq_true rfl) (by simp [Go.Lf.Ty.top]) (by simp [Go.Lf.Ty.top]) fun z r h => (ir_lowerer__target_eq z.1 z.2.1 z.2.2.1 z.2.2.2).trans h
noncomputable def ir_lowerer__pieceCtx : Go.Lf.Ctx := ⟨82, Tys, [fault_NewEnt, style_FindEnt, ir_lowerer__putEnt, ir_lowerer__targetEnt], [], [], [], []⟩
noncomputable def ir_lowerer__pieceCode : Go.Code := (Go.Proofs.Tryz.f96.body).getD .skip
def ir_lowerer__pieceAnn : Go.Lf.Ann := (.seq .no (.seq (.join (.more .nrm ⟨[], [(0, 0, [], 0)], [], [(0, 141, (.st (.pr qY30 qY47)))], []⟩ (.one .ret ⟨[], [(0, 0, [], 0)], [(4, (.eb 180 (.st qY41)))], [(0, 141, (.st (.pr qY30 qY47)))], []⟩)) (.seq .no (.seq .no (.cnd .no (.seq .no (.cnd (.seq (.draw 12) (.seq (.seq .no (.cnd (.seq (.draw 10) .no) .no)) .no)) (.seq .no (.cnd .no (.seq .no (.cnd .no (.seq .no (.cnd .no (.seq .no (.cnd .no (.seq .no (.cnd .no (.seq (.draw 8) .no))))))))))))))))) .no))
noncomputable def ir_lowerer__piece (a0 : (List qT20) × ((List qT19) × qT23)) (a1 : (Int) × ((List (UInt8)) × qT6)) : Option ((Option qT35) × qT48) :=
 (bif (decide ((a1.1 : Int) = (1 : Int))) then bif (decide ((a1.2.1 : List (UInt8)) ≠ ([] : List (UInt8)))) then ((Go.Fn.ir_lowerer__put a0 ((1 : Int), ((0 : Int), (a1.2.1, (([] : List (Int)), ())))))).bind fun r1 =>
   some (.inl r1)
   else some (.inl a0)
   else bif (decide ((a1.1 : Int) = (2 : Int))) then ((Go.Fn.style_Find a0.1 a1.2.2.1)).bind fun r2 =>
   bif (!r2.2) then ((Go.Fn.fault_New (66 : Int) a0.2.2.1 a1.2.2.2.1 a1.2.2.2.2.1 a1.2.2.1)).bind fun r3 =>
   some (.inr (r3, a0))
   else ((Go.Fn.ir_lowerer__put a0 ((2 : Int), (r2.1, (([] : List (UInt8)), (([] : List (Int)), ())))))).bind fun r4 =>
   some (.inl r4)
   else bif (decide ((a1.1 : Int) = (3 : Int))) then ((Go.Fn.ir_lowerer__target a0 a1 (3 : Int) (0 : Int))).bind fun r5 =>
   some (.inr (r5.1, r5.2))
   else bif (decide ((a1.1 : Int) = (4 : Int))) then ((Go.Fn.ir_lowerer__target a0 a1 (4 : Int) (1 : Int))).bind fun r6 =>
   some (.inr (r6.1, r6.2))
   else bif (decide ((a1.1 : Int) = (5 : Int))) then ((Go.Fn.ir_lowerer__put a0 ((5 : Int), ((0 : Int), (([] : List (UInt8)), (([] : List (Int)), ())))))).bind fun r7 =>
   some (.inl r7)
   else bif (decide ((a1.1 : Int) = (6 : Int))) then ((Go.Fn.ir_lowerer__put a0 ((6 : Int), ((0 : Int), (([] : List (UInt8)), (([] : List (Int)), ())))))).bind fun r8 =>
   some (.inl r8)
   else bif (decide ((a1.1 : Int) = (7 : Int))) then ((Go.Fn.ir_lowerer__put a0 ((7 : Int), ((0 : Int), (([] : List (UInt8)), (([] : List (Int)), ())))))).bind fun r9 =>
   some (.inl r9)
   else ((Go.Fn.fault_New (110 : Int) a0.2.2.1 a1.2.2.2.1 a1.2.2.2.2.1 ([] : List (UInt8)))).bind fun r10 =>
   some (.inr (r10, a0)) : Option (qT48 ⊕ ((Option qT35) × qT48))).bind fun r11 =>
 Go.Lf.onSum r11 (fun a12 =>
 some ((none : Option qT35), a12)) (fun b13 =>
 some (b13.1, b13.2))
theorem ir_lowerer__piece_eq (a0 : (List qT20) × ((List qT19) × qT23)) (a1 : (Int) × ((List (UInt8)) × qT6)) : Go.Lf.fnE ir_lowerer__pieceCtx ir_lowerer__pieceCode ir_lowerer__pieceAnn [.obj 141 (.st (.pr qY30 qY47)) (.st (.pr qY30 qY47)) [], .val qY21] [(.eb 180 (.st qY41))] [.tmp 4] (a0, a1) = ir_lowerer__piece a0 a1 := by kernel_rfl
noncomputable def ir_lowerer__pieceEnt : Nat × Go.Lf.Entry := (96, ⟨[.obj 141 (.st (.pr qY30 qY47)) (.st (.pr qY30 qY47)) [], .val qY21], [(.eb 180 (.st qY41))], fun z => ir_lowerer__piece z.1 z.2⟩)
theorem ir_lowerer__piece_ok : Go.Lf.EntryOk Go.Proofs.Tryz.prog GG 96 ir_lowerer__pieceEnt.2 :=
  Go.Lf.fn_ok (c := ir_lowerer__pieceCtx) (code := ir_lowerer__pieceCode) (an := ir_lowerer__pieceAnn) (slots := [.tmp 4]) (fn := Go.Proofs.Tryz.f96) (by kernel_rfl) ⟨Tys_ok, Go.Lf.FnsOk.look (.con fault_New_ok (.con style_Find_ok (.con ir_lowerer__put_ok (.con ir_lowerer__target_ok .nil)))), Go.Lf.IpsOk.look .nil⟩ (by kernel_rfl) (by kernel_rfl) (by kernel_rfl) (by kernel_rfl) (by kernel_rfl) (Nat.le_of_ble_eq_true rfl) (by simp [Go.Lf.Ty.top]) (by simp [Go.Lf.Ty.top]) fun z r h => (ir_lowerer__piece_eq z.1 z.2).trans h
noncomputable def ir_lowerer__blockCtx : Go.Lf.Ctx := ⟨98, Tys, [fault_NewEnt, style_FindEnt, ir_lowerer__putEnt, ir_lowerer__pieceEnt], [], [], [], []⟩
noncomputable def ir_lowerer__blockCode : Go.Code := (Go.Proofs.Tryz.f63.body).getD .skip
def ir_lowerer__blockAnn : Go.Lf.Ann := (.seq .no (.seq (.join (.more .nrm ⟨[], [(0, 0, [], 0)], [], [(0, 141, (.st (.pr qY30 qY47)))], []⟩ (.one .ret ⟨[], [(0, 0, [], 0)], [(4, (.eb 180 (.st qY41)))], [(0, 141, (.st (.pr qY30 qY47)))], []⟩)) (.seq .no (.seq .no (.cnd .no (.seq .no (.cnd .no (.seq .no (.cnd .no (.seq .no (.cnd .no (.seq .no (.cnd .no (.seq .no (.cnd (.seq .no (.seq (.join (.more .ret ⟨[], [(0, 0, [], 0)], [(4, (.eb 180 (.st qY41)))], [(0, 141, (.st (.pr qY30 qY47)))], []⟩ (.one .nrm ⟨[], [(0, 0, [], 0), (3, 3, [], 0)], [(5, (.int .i64))], [(0, 141, (.st (.pr qY30 qY47))), (3, 111, qY44)], []⟩)) (.seq .no (.cnd (.seq (.draw 12) (.seq (.seq .no (.cnd (.seq (.draw 8) .no) .no)) .no)) .no))) (.seq .no (.seq (.seq .no (.loop ⟨[82, 83], [(0, 0, [], 0)], [(84, (.int .i64))], [(0, 141, (.st (.pr qY30 qY47)))], []⟩ (.more (.ext 1) ⟨[], [(0, 0, [], 0)], [], [(0, 141, (.st (.pr qY30 qY47)))], []⟩ (.one .ret ⟨[], [(0, 0, [], 0)], [(4, (.eb 180 (.st qY41)))], [(0, 141, (.st (.pr qY30 qY47)))], []⟩)) .no)) .no)))) (.seq (.draw 6) .no))))))))))))))) .no))
noncomputable def ir_lowerer__block (a0 : (List qT20) × ((List qT19) × qT23)) (a1 : (Int) × ((Int) × qT36)) : Option ((Option qT35) × qT48) :=
 (bif (decide ((a1.1 : Int) = (2 : Int))) then ((Go.Fn.ir_lowerer__put a0 ((10 : Int), (a1.2.1, (([] : List (UInt8)), (([] : List (Int)), ())))))).bind fun r1 =>
   some (.inl r1)
   else bif (decide ((a1.1 : Int) = (3 : Int))) then ((Go.Fn.ir_lowerer__put a0 ((11 : Int), ((0 : Int), (([] : List (UInt8)), (([] : List (Int)), ())))))).bind fun r2 =>
   some (.inl r2)
   else bif (decide ((a1.1 : Int) = (4 : Int))) then ((Go.Lf.app (8 : Nat) ([] : List (Int)) a1.2.2.2.1)).bind fun r3 =>
   ((Go.Fn.ir_lowerer__put a0 ((12 : Int), ((0 : Int), (([] : List (UInt8)), (r3, ())))))).bind fun r4 =>
   some (.inl r4)
   else bif (decide ((a1.1 : Int) = (5 : Int))) then ((Go.Fn.ir_lowerer__put a0 ((13 : Int), ((0 : Int), (([] : List (UInt8)), (([] : List (Int)), ())))))).bind fun r5 =>
   some (.inl r5)
   else bif (decide ((a1.1 : Int) = (6 : Int))) then ((Go.Fn.ir_lowerer__put a0 ((14 : Int), ((0 : Int), (([] : List (UInt8)), (([] : List (Int)), ())))))).bind fun r6 =>
   some (.inl r6)
   else bif (decide ((a1.1 : Int) = (1 : Int))) then (bif (decide ((a1.2.2.1 : List (UInt8)) ≠ ([] : List (UInt8)))) then ((Go.Fn.style_Find a0.1 a1.2.2.1)).bind fun r7 =>
     bif (!r7.2) then ((Go.Fn.fault_New (66 : Int) a0.2.2.1 a1.2.2.2.2.2.1 (0 : Int) a1.2.2.1)).bind fun r8 =>
     some (.inl (r8, a0))
     else some (.inr (r7.1, (a0, a1)))
     else some (.inr ((-(1 : Int)), (a0, a1))) : Option (((Option qT35) × qT48) ⊕ ((Int) × (qT48 × qT39)))).bind fun r9 =>
   Go.Lf.onSum r9 (fun a10 =>
   some (.inr (a10.1, a10.2))) (fun b11 =>
   ((Go.Fn.ir_lowerer__put b11.2.1 ((8 : Int), (b11.1, (([] : List (UInt8)), (([] : List (Int)), ())))))).bind fun r12 =>
   (Go.Lf.loopC (σ := (Int) × qT48) (κ := qT48 ⊕ ((Option qT35) × qT48)) (fun z13 =>
       bif (decide (z13.1 < (((List.length b11.2.2.2.2.2.2.1) : Nat) : Int))) then ((Go.Lf.idx b11.2.2.2.2.2.2.1 z13.1)).bind fun r14 =>
       ((Go.Fn.ir_lowerer__piece z13.2 r14)).bind fun r15 =>
       bif (Option.isSome r15.1) then some (.inr (.inr (r15.1, r15.2)))
       else some (.inl ((Go.IntKind.wrap .i64 (z13.1 + (1 : Int))), r15.2))
       else some (.inr (.inl z13.2))) ((0 : Int), r12) : Option (qT48 ⊕ ((Option qT35) × qT48))).bind fun r16 =>
   Go.Lf.onSum r16 (fun a17 =>
   ((Go.Fn.ir_lowerer__put a17 ((9 : Int), ((0 : Int), (([] : List (UInt8)), (([] : List (Int)), ())))))).bind fun r18 =>
   some (.inl r18)) (fun b19 =>
   some (.inr (b19.1, b19.2))))
   else ((Go.Fn.fault_New (110 : Int) a0.2.2.1 a1.2.2.2.2.2.1 (0 : Int) ([] : List (UInt8)))).bind fun r20 =>
   some (.inr (r20, a0)) : Option (qT48 ⊕ ((Option qT35) × qT48))).bind fun r21 =>
 Go.Lf.onSum r21 (fun a22 =>
 some ((none : Option qT35), a22)) (fun b23 =>
 some (b23.1, b23.2))
theorem ir_lowerer__block_eq (a0 : (List qT20) × ((List qT19) × qT23)) (a1 : (Int) × ((Int) × qT36)) : Go.Lf.fnE ir_lowerer__blockCtx ir_lowerer__blockCode ir_lowerer__blockAnn [.obj 141 (.st (.pr qY30 qY47)) (.st (.pr qY30 qY47)) [], .val qY44] [(.eb 180 (.st qY41))] [.tmp 4] (a0, a1) = ir_lowerer__block a0 a1 := by kernel_rfl
noncomputable def ir_lowerer__blockEnt : Nat × Go.Lf.Entry := (63, ⟨[.obj 141 (.st (.pr qY30 qY47)) (.st (.pr qY30 qY47)) [], .val qY44], [(.eb 180 (.st qY41))], fun z => ir_lowerer__block z.1 z.2⟩)
theorem ir_lowerer__block_ok : Go.Lf.EntryOk Go.Proofs.Tryz.prog GG 63 ir_lowerer__blockEnt.2 :=
  Go.Lf.fn_ok (c := ir_lowerer__blockCtx) (code := ir_lowerer__blockCode) (an := ir_lowerer__blockAnn) (slots := [.tmp 4]) (fn := Go.Proofs.Tryz.f63) (by kernel_rfl) ⟨Tys_ok, Go.Lf.FnsOk.look (.con fault_New_ok (.con style_Find_ok (.con ir_lowerer__put_ok (.con ir_lowerer__piece_ok .nil)))), Go.Lf.IpsOk.look .nil⟩ (by kernel_rfl) (by kernel_rfl) (by kernel_rfl) (by kernel_rfl) (by kernel_rfl) (Nat.le_of_ble_eq_true rfl) (by simp [Go.Lf.Ty.top]) (by simp [Go.Lf.Ty.top]) fun z r h => (ir_lowerer__block_eq z.1 z.2).trans h
noncomputable def ir_plainCtx : Go.Lf.Ctx := ⟨15, Tys, [text_PlainEnt], [], [], [], []⟩
noncomputable def ir_plainCode : Go.Code := (Go.Proofs.Tryz.f111.body).getD .skip
def ir_plainAnn : Go.Lf.Ann := (.seq .no (.seq .no (.seq (.join (.one .nrm ⟨[], [], [(2, .bool)], [], []⟩) .no) .no)))
noncomputable def ir_plain (a0 : List (UInt8)) : Option (Bool) :=
 ((Go.Fn.text_Plain a0)).bind fun r1 =>
 (bif (decide ((a0 : List (UInt8)) ≠ ([] : List (UInt8)))) then some r1.2
   else some false).bind fun r2 =>
 some r2
theorem ir_plain_eq (a0 : List (UInt8)) : Go.Lf.fnE ir_plainCtx ir_plainCode ir_plainAnn [.val .str] [.bool] [.tmp 2] (a0) = ir_plain a0 := by kernel_rfl
noncomputable def ir_plainEnt : Nat × Go.Lf.Entry := (111, ⟨[.val .str], [.bool], fun z => ir_plain z⟩)
theorem ir_plain_ok : Go.Lf.EntryOk Go.Proofs.Tryz.prog GG 111 ir_plainEnt.2 :=
  Go.Lf.fn_ok (c := ir_plainCtx) (code := ir_plainCode) (an := ir_plainAnn) (slots := [.tmp 2]) (fn := Go.Proofs.Tryz.f111) (by kernel_rfl) ⟨Tys_ok, Go.Lf.FnsOk.look (.con text_Plain_ok .nil), Go.Lf.IpsOk.look .nil⟩ (by kernel_rfl) (by kernel_rfl) (by kernel_rfl) (by kernel_rfl) (by kernel_rfl) (Nat.le_of_ble_eq_true rfl) (by simp [Go.Lf.Ty.top]) (by simp [Go.Lf.Ty.top]) fun z r h => (ir_plain_eq z).trans h
noncomputable def ir_walker__formCtx : Go.Lf.Ctx := ⟨131, Tys, [ir_plainEnt], [], [], [], []⟩
noncomputable def ir_walker__formCode : Go.Code := (Go.Proofs.Tryz.f70.body).getD .skip
def ir_walker__formAnn : Go.Lf.Ann := (.seq .no (.seq (.draw 13) (.seq (.join (.more .nrm ⟨[], [(0, 0, [], 0)], [(7, .bool), (6, .bool), (5, .bool)], [(0, 165, qY81)], []⟩ (.one .ret ⟨[], [(0, 0, [], 0)], [(4, .bool)], [(0, 165, qY81)], []⟩)) (.seq .no (.seq .no (.cnd .no (.seq .no (.cnd (.draw 13) (.seq (.join (.one .nrm ⟨[7, 6, 5, 21], [(0, 0, [], 0), (3, 3, [], 0)], [(48, .bool)], [(0, 165, qY81), (3, 61, (.st qY17))], []⟩) .no) (.cnd (.draw 13) (.seq .no (.cnd (.draw 13) (.seq .no (.cnd .no (.seq .no (.cnd (.seq (.join (.one .nrm ⟨[6, 5], [(0, 0, [], 0), (3, 3, [], 0)], [(7, .bool)], [(0, 165, qY81), (3, 61, (.st qY17))], []⟩) .no) (.seq .no (.loop ⟨[100, 6, 5, 101], [(0, 0, [], 0)], [(102, (.int .i64)), (7, .bool)], [(0, 165, qY81)], []⟩ (.one (.ext 1) ⟨[6, 5], [(0, 0, [], 0)], [(7, .bool)], [(0, 165, qY81)], []⟩) (.seq .no (.seq .no (.seq (.join (.one .nrm ⟨[100, 6, 5, 101, 102], [(0, 0, [], 0)], [(7, .bool)], [(0, 165, qY81)], []⟩) .no) .no)))))) (.seq (.join (.one .nrm ⟨[7, 6, 5], [(0, 0, [], 0)], [(116, .bool)], [(0, 165, qY81)], []⟩) .no) .no))))))))))))))) (.seq (.join (.one .nrm ⟨[], [(0, 0, [], 0)], [(4, .bool)], [(0, 165, qY81)], []⟩) .no) .no))))
noncomputable def ir_walker__form (a0 : (((Int) × qT7) × qT73) × qT7) (a1 : (Int) × ((Int) × qT4)) : Option ((Bool) × qT74) :=
 (bif (decide ((a1.1 : Int) = (1 : Int))) then ((Go.Fn.ir_plain a1.2.2.1)).bind fun r1 =>
   bif r1 then some (.inl ((decide (((((List.length a1.2.2.2.1) : Nat) : Int) : Int) = (0 : Int))), ((decide ((a0.2.2.2.2.1 : Int) ≠ (1 : Int))), ((decide ((a1.2.1 : Int) = (0 : Int))), a0))))
   else some (.inl ((decide (((((List.length a1.2.2.2.1) : Nat) : Int) : Int) = (0 : Int))), (false, ((decide ((a1.2.1 : Int) = (0 : Int))), a0))))
   else bif (decide ((a1.1 : Int) = (2 : Int))) then bif (decide ((0 : Int) ≤ a1.2.1)) then some (.inl ((decide (((((List.length a1.2.2.2.1) : Nat) : Int) : Int) = (0 : Int))), ((decide ((a1.2.2.1 : List (UInt8)) = ([] : List (UInt8)))), ((decide (a1.2.1 < a0.2.2.1)), a0))))
   else some (.inl ((decide (((((List.length a1.2.2.2.1) : Nat) : Int) : Int) = (0 : Int))), ((decide ((a1.2.2.1 : List (UInt8)) = ([] : List (UInt8)))), (false, a0))))
   else (bif (decide ((a1.1 : Int) = (3 : Int))) then some ((decide ((a1.1 : Int) = (3 : Int))), (a0, a1))
     else some ((decide ((a1.1 : Int) = (4 : Int))), (a0, a1))).bind fun r2 =>
   bif r2.1 then bif (decide ((0 : Int) ≤ r2.2.2.2.1)) then some (.inl ((decide (((((List.length a1.2.2.2.1) : Nat) : Int) : Int) = (0 : Int))), ((decide ((a1.2.2.1 : List (UInt8)) = ([] : List (UInt8)))), ((decide (r2.2.2.2.1 < r2.2.1.2.2.2.1)), r2.2.1))))
   else some (.inl ((decide (((((List.length a1.2.2.2.1) : Nat) : Int) : Int) = (0 : Int))), ((decide ((a1.2.2.1 : List (UInt8)) = ([] : List (UInt8)))), (false, r2.2.1))))
   else bif (decide ((a1.1 : Int) = (8 : Int))) then bif (decide ((-(1 : Int)) ≤ r2.2.2.2.1)) then some (.inl ((decide (((((List.length a1.2.2.2.1) : Nat) : Int) : Int) = (0 : Int))), ((decide ((a1.2.2.1 : List (UInt8)) = ([] : List (UInt8)))), ((decide (r2.2.2.2.1 < r2.2.1.2.2.1)), r2.2.1))))
   else some (.inl ((decide (((((List.length a1.2.2.2.1) : Nat) : Int) : Int) = (0 : Int))), ((decide ((a1.2.2.1 : List (UInt8)) = ([] : List (UInt8)))), (false, r2.2.1))))
   else bif (decide ((a1.1 : Int) = (10 : Int))) then bif (!(decide ((r2.2.2.2.1 : Int) = (0 : Int)))) then some (.inl ((decide (((((List.length a1.2.2.2.1) : Nat) : Int) : Int) = (0 : Int))), ((decide ((a1.2.2.1 : List (UInt8)) = ([] : List (UInt8)))), ((decide ((r2.2.2.2.1 : Int) = (1 : Int))), r2.2.1))))
   else some (.inl ((decide (((((List.length a1.2.2.2.1) : Nat) : Int) : Int) = (0 : Int))), ((decide ((a1.2.2.1 : List (UInt8)) = ([] : List (UInt8)))), (true, r2.2.1))))
   else bif (decide ((a1.1 : Int) = (12 : Int))) then (bif (decide ((1 : Int) ≤ (((List.length r2.2.2.2.2.2.1) : Nat) : Int))) then some ((decide ((((List.length r2.2.2.2.2.2.1) : Nat) : Int) ≤ (8 : Int))), (r2.2.1, r2.2.2))
     else some (false, (r2.2.1, r2.2.2))).bind fun r3 =>
   (Go.Lf.loopC (σ := (Int) × ((Bool) × qT74)) (κ := (Bool) × qT74) (fun z4 =>
       bif (decide (z4.1 < (((List.length r3.2.2.2.2.2.1) : Nat) : Int))) then (((Go.Lf.idx r3.2.2.2.2.2.1 z4.1)).bind fun r5 =>
         bif z4.2.1 then bif (decide ((0 : Int) ≤ r5)) then some ((decide (r5 ≤ (100 : Int))), z4.2.2)
         else some (false, z4.2.2)
         else some (false, z4.2.2)).bind fun r6 =>
       some (.inl ((Go.IntKind.wrap .i64 (z4.1 + (1 : Int))), (r6.1, r6.2)))
       else some (.inr (z4.2.1, z4.2.2))) ((0 : Int), (r3.1, r3.2.1)) : Option ((Bool) × qT74)).bind fun r7 =>
   some (.inl (r7.1, ((decide ((a1.2.2.1 : List (UInt8)) = ([] : List (UInt8)))), ((decide ((a1.2.1 : Int) = (0 : Int))), r7.2))))
   else (bif (decide ((a1.1 : Int) = (5 : Int))) then some ((decide ((a1.1 : Int) = (5 : Int))), r2.2.1)
     else bif (decide ((a1.1 : Int) = (6 : Int))) then some ((decide ((a1.1 : Int) = (6 : Int))), r2.2.1)
     else bif (decide ((a1.1 : Int) = (7 : Int))) then some ((decide ((a1.1 : Int) = (7 : Int))), r2.2.1)
     else bif (decide ((a1.1 : Int) = (9 : Int))) then some ((decide ((a1.1 : Int) = (9 : Int))), r2.2.1)
     else bif (decide ((a1.1 : Int) = (11 : Int))) then some ((decide ((a1.1 : Int) = (11 : Int))), r2.2.1)
     else bif (decide ((a1.1 : Int) = (13 : Int))) then some ((decide ((a1.1 : Int) = (13 : Int))), r2.2.1)
     else some ((decide ((a1.1 : Int) = (14 : Int))), r2.2.1)).bind fun r8 =>
   bif r8.1 then some (.inl ((decide (((((List.length a1.2.2.2.1) : Nat) : Int) : Int) = (0 : Int))), ((decide ((a1.2.2.1 : List (UInt8)) = ([] : List (UInt8)))), ((decide ((a1.2.1 : Int) = (0 : Int))), r8.2))))
   else some (.inr (false, r8.2)) : Option (((Bool) × ((Bool) × ((Bool) × qT74))) ⊕ ((Bool) × qT74))).bind fun r9 =>
 Go.Lf.onSum r9 (fun a10 =>
 (bif a10.2.2.1 then bif a10.2.1 then some (a10.1, a10.2.2.2)
   else some (false, a10.2.2.2)
   else some (false, a10.2.2.2)).bind fun r11 =>
 some (r11.1, r11.2)) (fun b12 =>
 some (b12.1, b12.2))
theorem ir_walker__form_eq (a0 : (((Int) × qT7) × qT73) × qT7) (a1 : (Int) × ((Int) × qT4)) : Go.Lf.fnE ir_walker__formCtx ir_walker__formCode ir_walker__formAnn [.obj 165 qY81 qY81 [], .val (.st qY17)] [.bool] [.tmp 4] (a0, a1) = ir_walker__form a0 a1 := by kernel_rfl
noncomputable def ir_walker__formEnt : Nat × Go.Lf.Entry := (70, ⟨[.obj 165 qY81 qY81 [], .val (.st qY17)], [.bool], fun z => ir_walker__form z.1 z.2⟩)
theorem ir_walker__form_ok : Go.Lf.EntryOk Go.Proofs.Tryz.prog GG 70 ir_walker__formEnt.2 :=
  Go.Lf.fn_ok (c := ir_walker__formCtx) (code := ir_walker__formCode) (an := ir_walker__formAnn) (slots := [.tmp 4]) (fn := Go.Proofs.Tryz.f70) (by kernel_rfl) ⟨Tys_ok, Go.Lf.FnsOk.look (.con ir_plain_ok .nil), Go.Lf.IpsOk.look .nil⟩ (by kernel_rfl) (by kernel_rfl) (by kernel_rfl) (by kernel_rfl) (by kernel_rfl) (Nat.le_of_ble_eq_true rfl) (by simp [Go.Lf.Ty.top]) (by simp [Go.Lf.Ty.top]) fun z r h => (ir_walker__form_eq z.1 z.2).trans h
noncomputable def ir_walker__paraCtx : Go.Lf.Ctx := ⟨22, Tys, [], [], [], [], []⟩
noncomputable def ir_walker__paraCode : Go.Code := (Go.Proofs.Tryz.f112.body).getD .skip
def ir_walker__paraAnn : Go.Lf.Ann := (.seq .no (.seq (.seq .no (.loop ⟨[], [(0, 0, [], 0)], [(3, (.int .i64))], [(0, 165, qY81)], []⟩ (.more (.ext 0) ⟨[], [(0, 0, [], 0)], [], [(0, 165, qY81)], []⟩ (.one .ret ⟨[], [(0, 0, [], 0)], [(2, (.int .i64))], [(0, 165, qY81)], []⟩)) .no)) .no))
noncomputable def ir_walker__para (a0 : (((Int) × qT7) × qT73) × qT7) : Option ((Int) × qT74) :=
 (Go.Lf.loopC (σ := (Int) × qT74) (κ := qT74 ⊕ ((Int) × qT74)) (fun z1 =>
     bif (decide ((0 : Int) ≤ z1.1)) then ((Go.Lf.chk (((((((((((((((((((((((((((0 : Nat) + (1 : Nat)) + (1 : Nat)) + (1 : Nat)) + (1 : Nat)) + (1 : Nat)) + (1 : Nat)) + (1 : Nat)) + (1 : Nat)) + (1 : Nat)) + (1 : Nat)) + (1 : Nat)) + (1 : Nat)) + (1 : Nat)) + (1 : Nat)) + (1 : Nat)) + (1 : Nat)) + (1 : Nat)) + (1 : Nat)) + (1 : Nat)) + (1 : Nat)) + (1 : Nat)) + (1 : Nat)) + (1 : Nat)) + (1 : Nat)) + (1 : Nat)) + (1 : Nat)) z1.1)).bind fun r2 =>
     ((Go.Lf.nth (Go.Lf.arL (Go.Lf.Ty.st (Go.Lf.Ty.pr (Go.Lf.Ty.int .i64) (Go.Lf.Ty.pr (Go.Lf.Ty.int .i64) (Go.Lf.Ty.pr (Go.Lf.Ty.int .i64) (Go.Lf.Ty.pr (Go.Lf.Ty.int .i64) (Go.Lf.Ty.pr (Go.Lf.Ty.int .i64) Go.Lf.Ty.unit)))))) (((((((((((((((((((((((((((0 : Nat) + (1 : Nat)) + (1 : Nat)) + (1 : Nat)) + (1 : Nat)) + (1 : Nat)) + (1 : Nat)) + (1 : Nat)) + (1 : Nat)) + (1 : Nat)) + (1 : Nat)) + (1 : Nat)) + (1 : Nat)) + (1 : Nat)) + (1 : Nat)) + (1 : Nat)) + (1 : Nat)) + (1 : Nat)) + (1 : Nat)) + (1 : Nat)) + (1 : Nat)) + (1 : Nat)) + (1 : Nat)) + (1 : Nat)) + (1 : Nat)) + (1 : Nat)) + (1 : Nat)) z1.2.1) r2)).bind fun r3 =>
     bif (decide ((r3.1 : Int) = (8 : Int))) then some (.inr (.inr (z1.1, z1.2)))
     else some (.inl ((Go.IntKind.wrap .i64 (z1.1 - (1 : Int))), z1.2))
     else some (.inr (.inl z1.2))) ((Go.IntKind.wrap .i64 (a0.2.1 - (1 : Int))), a0) : Option (qT74 ⊕ ((Int) × qT74))).bind fun r4 =>
 Go.Lf.onSum r4 (fun a5 =>
 some ((-(1 : Int)), a5)) (fun b6 =>
 some (b6.1, b6.2))
theorem ir_walker__para_eq (a0 : (((Int) × qT7) × qT73) × qT7) : Go.Lf.fnE ir_walker__paraCtx ir_walker__paraCode ir_walker__paraAnn [.obj 165 qY81 qY81 []] [(.int .i64)] [.tmp 2] (a0) = ir_walker__para a0 := by kernel_rfl
noncomputable def ir_walker__paraEnt : Nat × Go.Lf.Entry := (112, ⟨[.obj 165 qY81 qY81 []], [(.int .i64)], fun z => ir_walker__para z⟩)
theorem ir_walker__para_ok : Go.Lf.EntryOk Go.Proofs.Tryz.prog GG 112 ir_walker__paraEnt.2 :=
  Go.Lf.fn_ok (c := ir_walker__paraCtx) (code := ir_walker__paraCode) (an := ir_walker__paraAnn) (slots := [.tmp 2]) (fn := Go.Proofs.Tryz.f112) (by kernel_rfl) ⟨Tys_ok, Go.Lf.FnsOk.look .nil, Go.Lf.IpsOk.look .nil⟩ (by kernel_rfl) (by kernel_rfl) (by kernel_rfl) (by kernel_rfl) (by kernel_rfl) (Nat.le_of_ble_eq_true rfl) (by simp [Go.Lf.Ty.top]) (by simp [Go.Lf.Ty.top]) fun z r h => (ir_walker__para_eq z).trans h
noncomputable def ir_walker__pushCtx : Go.Lf.Ctx := ⟨20, Tys, [], [], [], [], []⟩
noncomputable def ir_walker__pushCode : Go.Code := (Go.Proofs.Tryz.f113.body).getD .skip
def ir_walker__pushAnn : Go.Lf.Ann := (.seq .no (.seq (.draw 9) .no))
noncomputable def ir_walker__push (a0 : (((Int) × qT7) × qT73) × qT7) (a1 : (Int) × qT7) : Option qT74 :=
 ((Go.Lf.chk (((((((((((((((((((((((((((0 : Nat) + (1 : Nat)) + (1 : Nat)) + (1 : Nat)) + (1 : Nat)) + (1 : Nat)) + (1 : Nat)) + (1 : Nat)) + (1 : Nat)) + (1 : Nat)) + (1 : Nat)) + (1 : Nat)) + (1 : Nat)) + (1 : Nat)) + (1 : Nat)) + (1 : Nat)) + (1 : Nat)) + (1 : Nat)) + (1 : Nat)) + (1 : Nat)) + (1 : Nat)) + (1 : Nat)) + (1 : Nat)) + (1 : Nat)) + (1 : Nat)) + (1 : Nat)) + (1 : Nat)) a0.2.1)).bind fun r1 =>
 ((Go.Lf.nth (Go.Lf.arL (Go.Lf.Ty.st (Go.Lf.Ty.pr (Go.Lf.Ty.int .i64) (Go.Lf.Ty.pr (Go.Lf.Ty.int .i64) (Go.Lf.Ty.pr (Go.Lf.Ty.int .i64) (Go.Lf.Ty.pr (Go.Lf.Ty.int .i64) (Go.Lf.Ty.pr (Go.Lf.Ty.int .i64) Go.Lf.Ty.unit)))))) (((((((((((((((((((((((((((0 : Nat) + (1 : Nat)) + (1 : Nat)) + (1 : Nat)) + (1 : Nat)) + (1 : Nat)) + (1 : Nat)) + (1 : Nat)) + (1 : Nat)) + (1 : Nat)) + (1 : Nat)) + (1 : Nat)) + (1 : Nat)) + (1 : Nat)) + (1 : Nat)) + (1 : Nat)) + (1 : Nat)) + (1 : Nat)) + (1 : Nat)) + (1 : Nat)) + (1 : Nat)) + (1 : Nat)) + (1 : Nat)) + (1 : Nat)) + (1 : Nat)) + (1 : Nat)) + (1 : Nat)) a0.1) r1)).bind fun r2 =>
 some ((Go.Lf.arS (Go.Lf.Ty.st (Go.Lf.Ty.pr (Go.Lf.Ty.int .i64) (Go.Lf.Ty.pr (Go.Lf.Ty.int .i64) (Go.Lf.Ty.pr (Go.Lf.Ty.int .i64) (Go.Lf.Ty.pr (Go.Lf.Ty.int .i64) (Go.Lf.Ty.pr (Go.Lf.Ty.int .i64) Go.Lf.Ty.unit)))))) (((((((((((((((((((((((((((0 : Nat) + (1 : Nat)) + (1 : Nat)) + (1 : Nat)) + (1 : Nat)) + (1 : Nat)) + (1 : Nat)) + (1 : Nat)) + (1 : Nat)) + (1 : Nat)) + (1 : Nat)) + (1 : Nat)) + (1 : Nat)) + (1 : Nat)) + (1 : Nat)) + (1 : Nat)) + (1 : Nat)) + (1 : Nat)) + (1 : Nat)) + (1 : Nat)) + (1 : Nat)) + (1 : Nat)) + (1 : Nat)) + (1 : Nat)) + (1 : Nat)) + (1 : Nat)) + (1 : Nat)) a0.1 r1 a1), ((Go.IntKind.wrap .i64 (a0.2.1 + (1 : Int))), a0.2.2))
theorem ir_walker__push_eq (a0 : (((Int) × qT7) × qT73) × qT7) (a1 : (Int) × qT7) : Go.Lf.fnE ir_walker__pushCtx ir_walker__pushCode ir_walker__pushAnn [.obj 165 qY81 qY81 [], .val qY26] [] [] (a0, a1) = ir_walker__push a0 a1 := by kernel_rfl
noncomputable def ir_walker__pushEnt : Nat × Go.Lf.Entry := (113, ⟨[.obj 165 qY81 qY81 [], .val qY26], [], fun z => ir_walker__push z.1 z.2⟩)
theorem ir_walker__push_ok : Go.Lf.EntryOk Go.Proofs.Tryz.prog GG 113 ir_walker__pushEnt.2 :=
  Go.Lf.fn_ok (c := ir_walker__pushCtx) (code := ir_walker__pushCode) (an := ir_walker__pushAnn) (slots := []) (fn := Go.Proofs.Tryz.f113) (by kernel_rfl) ⟨Tys_ok, Go.Lf.FnsOk.look .nil, Go.Lf.IpsOk.look .nil⟩ (by kernel_rfl) (by kernel_rfl) (by kernel_rfl) (by kernel_rfl) (by kernel_rfl) (Nat.le_of_ble_eq_true rfl) (by simp [Go.Lf.Ty.top]) (by simp [Go.Lf.Ty.top]) fun z r h => (ir_walker__push_eq z.1 z.2).trans h
noncomputable def ir_walker__topCtx : Go.Lf.Ctx := ⟨17, Tys, [], [], [], [], []⟩
noncomputable def ir_walker__topCode : Go.Code := (Go.Proofs.Tryz.f115.body).getD .skip
def ir_walker__topAnn : Go.Lf.Ann := (.seq .no (.seq .no (.seq (.draw 10) .no)))
noncomputable def ir_walker__topP (a0 : (((Int) × qT7) × qT73) × qT7) : Option (Option Nat × qT74) :=
 bif (decide ((a0.2.1 : Int) = (0 : Int))) then some ((none : Option (Nat)), a0)
 else ((Go.Lf.chk (((((((((((((((((((((((((((0 : Nat) + (1 : Nat)) + (1 : Nat)) + (1 : Nat)) + (1 : Nat)) + (1 : Nat)) + (1 : Nat)) + (1 : Nat)) + (1 : Nat)) + (1 : Nat)) + (1 : Nat)) + (1 : Nat)) + (1 : Nat)) + (1 : Nat)) + (1 : Nat)) + (1 : Nat)) + (1 : Nat)) + (1 : Nat)) + (1 : Nat)) + (1 : Nat)) + (1 : Nat)) + (1 : Nat)) + (1 : Nat)) + (1 : Nat)) + (1 : Nat)) + (1 : Nat)) + (1 : Nat)) (Go.IntKind.wrap .i64 (a0.2.1 - (1 : Int))))).bind fun r1 =>
 some ((some r1), a0)
theorem ir_walker__top_eq (a0 : (((Int) × qT7) × qT73) × qT7) : Go.Lf.ipE ir_walker__topCtx ir_walker__topCode ir_walker__topAnn 165 qY81 [] [.i, .l] 0 5 2 a0 = ir_walker__topP a0 := by kernel_rfl
noncomputable def ir_walker__top (a0 : (((Int) × qT7) × qT73) × qT7) : Option (Option Nat) := (ir_walker__topP a0).map (·.1)
theorem ir_walker__top_same (a0 : (((Int) × qT7) × qT73) × qT7) : Go.Lf.Same a0 (ir_walker__topP a0) := by
  unfold ir_walker__topP
  repeat' (first | exact Go.Lf.Same.some | exact Go.Lf.Same.none | refine Go.Lf.Same.cond _ ?_ ?_ | refine Go.Lf.Same.bind _ (fun _ => ?_))
noncomputable def ir_walker__topIp : Nat × Go.Lf.Ip := (115, ⟨165, qY81, [], [.i, .l], 0, 5, fun z => ir_walker__top z⟩)
theorem ir_walker__top_ok : Go.Lf.IpOk Go.Proofs.Tryz.prog GG 115 ir_walker__topIp.2 :=
  Go.Lf.ip_ok (c := ir_walker__topCtx) (code := ir_walker__topCode) (an := ir_walker__topAnn) (slot := 2) (fn := Go.Proofs.Tryz.f115) (by kernel_rfl) ⟨Tys_ok, Go.Lf.FnsOk.look .nil, Go.Lf.IpsOk.look .nil⟩ (by kernel_rfl) (by kernel_rfl) (by kernel_rfl) (by kernel_rfl) (by kernel_rfl) (Nat.le_of_ble_eq_true rfl) (by kernel_rfl) fun z m h => (ir_walker__top_eq z).trans (Go.Lf.Same.get (ir_walker__top_same z) h)
noncomputable def ir_walker__withinCtx : Go.Lf.Ctx := ⟨18, Tys, [], [], [], [], [ir_walker__topIp]⟩
noncomputable def ir_walker__withinCode : Go.Code := (Go.Proofs.Tryz.f114.body).getD .skip
def ir_walker__withinAnn : Go.Lf.Ann := (.seq .no (.seq .no (.seq (.join (.one .nrm ⟨[], [(0, 0, [], 0)], [(4, .bool)], [(0, 165, qY81)], []⟩) .no) .no)))
noncomputable def ir_walker__within (a0 : (((Int) × qT7) × qT73) × qT7) (a1 : Int) : Option ((Bool) × qT74) :=
 ((Go.Fn.ir_walker__top a0)).bind fun r1 =>
 (bif (Option.isSome r1) then (r1).bind fun r2 =>
   ((Go.Lf.nth (Go.Lf.arL (Go.Lf.Ty.st (Go.Lf.Ty.pr (Go.Lf.Ty.int .i64) (Go.Lf.Ty.pr (Go.Lf.Ty.int .i64) (Go.Lf.Ty.pr (Go.Lf.Ty.int .i64) (Go.Lf.Ty.pr (Go.Lf.Ty.int .i64) (Go.Lf.Ty.pr (Go.Lf.Ty.int .i64) Go.Lf.Ty.unit)))))) (((((((((((((((((((((((((((0 : Nat) + (1 : Nat)) + (1 : Nat)) + (1 : Nat)) + (1 : Nat)) + (1 : Nat)) + (1 : Nat)) + (1 : Nat)) + (1 : Nat)) + (1 : Nat)) + (1 : Nat)) + (1 : Nat)) + (1 : Nat)) + (1 : Nat)) + (1 : Nat)) + (1 : Nat)) + (1 : Nat)) + (1 : Nat)) + (1 : Nat)) + (1 : Nat)) + (1 : Nat)) + (1 : Nat)) + (1 : Nat)) + (1 : Nat)) + (1 : Nat)) + (1 : Nat)) + (1 : Nat)) a0.1) r2)).bind fun r3 =>
   some ((decide ((r3.1 : Int) = a1)), a0)
   else some (false, a0)).bind fun r4 =>
 some (r4.1, r4.2)
theorem ir_walker__within_eq (a0 : (((Int) × qT7) × qT73) × qT7) (a1 : Int) : Go.Lf.fnE ir_walker__withinCtx ir_walker__withinCode ir_walker__withinAnn [.obj 165 qY81 qY81 [], .val (.int .i64)] [.bool] [.tmp 4] (a0, a1) = ir_walker__within a0 a1 := by kernel_rfl
noncomputable def ir_walker__withinEnt : Nat × Go.Lf.Entry := (114, ⟨[.obj 165 qY81 qY81 [], .val (.int .i64)], [.bool], fun z => ir_walker__within z.1 z.2⟩)
theorem ir_walker__within_ok : Go.Lf.EntryOk Go.Proofs.Tryz.prog GG 114 ir_walker__withinEnt.2 :=
  Go.Lf.fn_ok (c := ir_walker__withinCtx) (code := ir_walker__withinCode) (an := ir_walker__withinAnn) (slots := [.tmp 4]) (fn := Go.Proofs.Tryz.f114) (by kernel_rfl) ⟨Tys_ok, Go.Lf.FnsOk.look .nil, Go.Lf.IpsOk.look (.con ir_walker__top_ok .nil)⟩ (by kernel_rfl) (by kernel_rfl) (by kernel_rfl) (by kernel_rfl) (by kernel_rfl) (Nat.le_of_ble_eq_true rfl) (by simp [Go.Lf.Ty.top]) (by simp [Go.Lf.Ty.top]) fun z r h => (ir_walker__within_eq z.1 z.2).trans h
noncomputable def ir_walker__itemCtx : Go.Lf.Ctx := ⟨13, Tys, [ir_walker__withinEnt], [], [], [], [ir_walker__topIp]⟩
noncomputable def ir_walker__itemCode : Go.Code := (Go.Proofs.Tryz.f147.body).getD .skip
def ir_walker__itemAnn : Go.Lf.Ann := (.seq .no (.seq (.join (.one .nrm ⟨[], [(0, 0, [], 0)], [(2, .bool)], [(0, 165, qY81)], []⟩) .no) .no))
noncomputable def ir_walker__item (a0 : (((Int) × qT7) × qT73) × qT7) : Option ((Bool) × qT74) :=
 (((Go.Fn.ir_walker__within a0 (10 : Int))).bind fun r1 =>
   bif r1.1 then ((Go.Fn.ir_walker__top r1.2)).bind fun r2 =>
   (r2).bind fun r3 =>
   ((Go.Lf.nth (Go.Lf.arL (Go.Lf.Ty.st (Go.Lf.Ty.pr (Go.Lf.Ty.int .i64) (Go.Lf.Ty.pr (Go.Lf.Ty.int .i64) (Go.Lf.Ty.pr (Go.Lf.Ty.int .i64) (Go.Lf.Ty.pr (Go.Lf.Ty.int .i64) (Go.Lf.Ty.pr (Go.Lf.Ty.int .i64) Go.Lf.Ty.unit)))))) (((((((((((((((((((((((((((0 : Nat) + (1 : Nat)) + (1 : Nat)) + (1 : Nat)) + (1 : Nat)) + (1 : Nat)) + (1 : Nat)) + (1 : Nat)) + (1 : Nat)) + (1 : Nat)) + (1 : Nat)) + (1 : Nat)) + (1 : Nat)) + (1 : Nat)) + (1 : Nat)) + (1 : Nat)) + (1 : Nat)) + (1 : Nat)) + (1 : Nat)) + (1 : Nat)) + (1 : Nat)) + (1 : Nat)) + (1 : Nat)) + (1 : Nat)) + (1 : Nat)) + (1 : Nat)) + (1 : Nat)) r1.2.1) r3)).bind fun r4 =>
   some ((decide ((0 : Int) < r4.2.1)), r1.2)
   else some (false, r1.2)).bind fun r5 =>
 some (r5.1, r5.2)
theorem ir_walker__item_eq (a0 : (((Int) × qT7) × qT73) × qT7) : Go.Lf.fnE ir_walker__itemCtx ir_walker__itemCode ir_walker__itemAnn [.obj 165 qY81 qY81 []] [.bool] [.tmp 2] (a0) = ir_walker__item a0 := by kernel_rfl
noncomputable def ir_walker__itemEnt : Nat × Go.Lf.Entry := (147, ⟨[.obj 165 qY81 qY81 []], [.bool], fun z => ir_walker__item z⟩)
theorem ir_walker__item_ok : Go.Lf.EntryOk Go.Proofs.Tryz.prog GG 147 ir_walker__itemEnt.2 :=
  Go.Lf.fn_ok (c := ir_walker__itemCtx) (code := ir_walker__itemCode) (an := ir_walker__itemAnn) (slots := [.tmp 2]) (fn := Go.Proofs.Tryz.f147) (by kernel_rfl) ⟨Tys_ok, Go.Lf.FnsOk.look (.con ir_walker__within_ok .nil), Go.Lf.IpsOk.look (.con ir_walker__top_ok .nil)⟩ (by kernel_rfl) (by kernel_rfl) (by kernel_rfl) (by kernel_rfl) (by kernel_rfl) (Nat.le_of_ble_eq_true rfl) (by simp [Go.Lf.Ty.top]) (by simp [Go.Lf.Ty.top]) fun z r h => (ir_walker__item_eq z).trans h
noncomputable def ir_walker__fullCtx : Go.Lf.Ctx := ⟨22, Tys, [], [], [], [], [ir_walker__topIp]⟩
noncomputable def ir_walker__fullCode : Go.Code := (Go.Proofs.Tryz.f148.body).getD .skip
def ir_walker__fullAnn : Go.Lf.Ann := (.seq .no (.seq (.join (.one .nrm ⟨[], [(0, 0, [], 0)], [(2, .bool)], [(0, 165, qY81)], []⟩) (.draw 20)) .no))
noncomputable def ir_walker__full (a0 : (((Int) × qT7) × qT73) × qT7) : Option ((Bool) × qT74) :=
 (((Go.Fn.ir_walker__top a0)).bind fun r1 =>
   (r1).bind fun r2 =>
   ((Go.Lf.nth (Go.Lf.arL (Go.Lf.Ty.st (Go.Lf.Ty.pr (Go.Lf.Ty.int .i64) (Go.Lf.Ty.pr (Go.Lf.Ty.int .i64) (Go.Lf.Ty.pr (Go.Lf.Ty.int .i64) (Go.Lf.Ty.pr (Go.Lf.Ty.int .i64) (Go.Lf.Ty.pr (Go.Lf.Ty.int .i64) Go.Lf.Ty.unit)))))) (((((((((((((((((((((((((((0 : Nat) + (1 : Nat)) + (1 : Nat)) + (1 : Nat)) + (1 : Nat)) + (1 : Nat)) + (1 : Nat)) + (1 : Nat)) + (1 : Nat)) + (1 : Nat)) + (1 : Nat)) + (1 : Nat)) + (1 : Nat)) + (1 : Nat)) + (1 : Nat)) + (1 : Nat)) + (1 : Nat)) + (1 : Nat)) + (1 : Nat)) + (1 : Nat)) + (1 : Nat)) + (1 : Nat)) + (1 : Nat)) + (1 : Nat)) + (1 : Nat)) + (1 : Nat)) + (1 : Nat)) a0.1) r2)).bind fun r3 =>
   bif (!(decide ((r3.2.2.1 : Int) = (0 : Int)))) then ((Go.Fn.ir_walker__top a0)).bind fun r4 =>
   (r4).bind fun r5 =>
   ((Go.Lf.nth (Go.Lf.arL (Go.Lf.Ty.st (Go.Lf.Ty.pr (Go.Lf.Ty.int .i64) (Go.Lf.Ty.pr (Go.Lf.Ty.int .i64) (Go.Lf.Ty.pr (Go.Lf.Ty.int .i64) (Go.Lf.Ty.pr (Go.Lf.Ty.int .i64) (Go.Lf.Ty.pr (Go.Lf.Ty.int .i64) Go.Lf.Ty.unit)))))) (((((((((((((((((((((((((((0 : Nat) + (1 : Nat)) + (1 : Nat)) + (1 : Nat)) + (1 : Nat)) + (1 : Nat)) + (1 : Nat)) + (1 : Nat)) + (1 : Nat)) + (1 : Nat)) + (1 : Nat)) + (1 : Nat)) + (1 : Nat)) + (1 : Nat)) + (1 : Nat)) + (1 : Nat)) + (1 : Nat)) + (1 : Nat)) + (1 : Nat)) + (1 : Nat)) + (1 : Nat)) + (1 : Nat)) + (1 : Nat)) + (1 : Nat)) + (1 : Nat)) + (1 : Nat)) + (1 : Nat)) a0.1) r5)).bind fun r6 =>
   ((Go.Fn.ir_walker__top a0)).bind fun r7 =>
   (r7).bind fun r8 =>
   ((Go.Lf.nth (Go.Lf.arL (Go.Lf.Ty.st (Go.Lf.Ty.pr (Go.Lf.Ty.int .i64) (Go.Lf.Ty.pr (Go.Lf.Ty.int .i64) (Go.Lf.Ty.pr (Go.Lf.Ty.int .i64) (Go.Lf.Ty.pr (Go.Lf.Ty.int .i64) (Go.Lf.Ty.pr (Go.Lf.Ty.int .i64) Go.Lf.Ty.unit)))))) (((((((((((((((((((((((((((0 : Nat) + (1 : Nat)) + (1 : Nat)) + (1 : Nat)) + (1 : Nat)) + (1 : Nat)) + (1 : Nat)) + (1 : Nat)) + (1 : Nat)) + (1 : Nat)) + (1 : Nat)) + (1 : Nat)) + (1 : Nat)) + (1 : Nat)) + (1 : Nat)) + (1 : Nat)) + (1 : Nat)) + (1 : Nat)) + (1 : Nat)) + (1 : Nat)) + (1 : Nat)) + (1 : Nat)) + (1 : Nat)) + (1 : Nat)) + (1 : Nat)) + (1 : Nat)) + (1 : Nat)) a0.1) r8)).bind fun r9 =>
   some ((decide ((r6.2.2.2.1 : Int) = r9.2.2.2.2.1)), a0)
   else some (true, a0)).bind fun r10 =>
 some (r10.1, r10.2)
theorem ir_walker__full_eq (a0 : (((Int) × qT7) × qT73) × qT7) : Go.Lf.fnE ir_walker__fullCtx ir_walker__fullCode ir_walker__fullAnn [.obj 165 qY81 qY81 []] [.bool] [.tmp 2] (a0) = ir_walker__full a0 := by kernel_rfl
noncomputable def ir_walker__fullEnt : Nat × Go.Lf.Entry := (148, ⟨[.obj 165 qY81 qY81 []], [.bool], fun z => ir_walker__full z⟩)
theorem ir_walker__full_ok : Go.Lf.EntryOk Go.Proofs.Tryz.prog GG 148 ir_walker__fullEnt.2 :=
  Go.Lf.fn_ok (c := ir_walker__fullCtx) (code := ir_walker__fullCode) (an := ir_walker__fullAnn) (slots := [.tmp 2]) (fn := Go.Proofs.Tryz.f148) (by kernel_rfl) ⟨Tys_ok, Go.Lf.FnsOk.look .nil, Go.Lf.IpsOk.look (.con ir_walker__top_ok .nil)⟩ (by kernel_rfl) (by kernel_rfl) (by kernel_rfl) (by kernel_rfl) (by kernel_rfl) (Nat.le_of_ble_eq_true rfl) (by simp [Go.Lf.Ty.top]) (by simp [Go.Lf.Ty.top]) fun z r h => (ir_walker__full_eq z).trans h
noncomputable def ir_walker__blockCtx : Go.Lf.Ctx := ⟨137, Tys, [ir_walker__pushEnt, ir_walker__withinEnt, ir_walker__itemEnt, ir_walker__fullEnt], [], [], [], [ir_walker__topIp]⟩
noncomputable def ir_walker__blockCode : Go.Code := (Go.Proofs.Tryz.f116.body).getD .skip
def ir_walker__blockAnn : Go.Lf.Ann := (.seq .no (.seq .no (.seq (.join (.more .ret ⟨[], [(0, 0, [], 0)], [(4, .bool)], [(0, 165, qY81)], []⟩ (.one .nrm ⟨[], [(0, 0, [], 0)], [], [(0, 165, qY81)], []⟩)) (.seq .no (.seq .no (.cnd (.seq (.seq (.join (.one .nrm ⟨[], [(0, 0, [], 0), (3, 3, [], 0)], [(65, .bool)], [(0, 165, qY81), (3, 61, (.st qY17))], []⟩) (.soup 29)) .no) .no) (.seq .no (.cnd (.seq (.seq (.join (.one .nrm ⟨[], [(0, 0, [], 0), (3, 3, [], 0)], [(86, .bool)], [(0, 165, qY81), (3, 61, (.st qY17))], []⟩) .no) .no) .no) (.seq .no (.cnd .no (.seq .no (.cnd .no (.seq .no (.cnd (.seq (.seq (.join (.one .nrm ⟨[5], [(0, 0, [], 0)], [(125, .bool)], [(0, 165, qY81)], [(5, 0)]⟩) .no) .no) .no) (.seq (.seq (.join (.one .nrm ⟨[], [(0, 0, [], 0)], [(23, .bool)], [(0, 165, qY81)], []⟩) .no) .no) .no))))))))))))) .no)))
noncomputable def ir_walker__block (a0 : (((Int) × qT7) × qT73) × qT7) (a1 : (Int) × ((Int) × qT4)) : Option ((Bool) × qT74) :=
 ((Go.Fn.ir_walker__top a0)).bind fun r1 =>
 (bif (decide ((a1.1 : Int) = (8 : Int))) then (bif (Option.isSome r1) then bif (Option.isSome r1) then none
     else bif (Option.isSome r1) then none
     else bif (Option.isSome r1) then none
     else some (false, (a0, a1))
     else bif (Option.isSome r1) then none
     else bif (Option.isSome r1) then none
     else bif (Option.isSome r1) then none
     else some (false, (a0, a1))).bind fun r2 =>
   bif r2.1 then some (.inl (false, r2.2.1))
   else ((Go.Fn.ir_walker__push r2.2.1 (r2.2.2.1, ((0 : Int), ((0 : Int), ((0 : Int), ((0 : Int), ()))))))).bind fun r3 =>
   some (.inr r3)
   else bif (decide ((a1.1 : Int) = (10 : Int))) then (bif (Option.isSome r1) then ((Go.Fn.ir_walker__item a0)).bind fun r4 =>
     bif (!(!r4.1)) then some ((decide ((8 : Int) ≤ r4.2.2.1)), (r4.2, a1))
     else some (true, (r4.2, a1))
     else some ((decide ((8 : Int) ≤ a0.2.1)), (a0, a1))).bind fun r5 =>
   bif r5.1 then some (.inl (false, r5.2.1))
   else ((Go.Fn.ir_walker__push r5.2.1 (r5.2.2.1, ((0 : Int), ((0 : Int), ((0 : Int), ((0 : Int), ()))))))).bind fun r6 =>
   some (.inr r6)
   else bif (decide ((a1.1 : Int) = (11 : Int))) then ((Go.Fn.ir_walker__within a0 (10 : Int))).bind fun r7 =>
   bif (!r7.1) then some (.inl (false, r7.2))
   else (r1).bind fun r8 =>
   ((Go.Lf.nth (Go.Lf.arL (Go.Lf.Ty.st (Go.Lf.Ty.pr (Go.Lf.Ty.int .i64) (Go.Lf.Ty.pr (Go.Lf.Ty.int .i64) (Go.Lf.Ty.pr (Go.Lf.Ty.int .i64) (Go.Lf.Ty.pr (Go.Lf.Ty.int .i64) (Go.Lf.Ty.pr (Go.Lf.Ty.int .i64) Go.Lf.Ty.unit)))))) (((((((((((((((((((((((((((0 : Nat) + (1 : Nat)) + (1 : Nat)) + (1 : Nat)) + (1 : Nat)) + (1 : Nat)) + (1 : Nat)) + (1 : Nat)) + (1 : Nat)) + (1 : Nat)) + (1 : Nat)) + (1 : Nat)) + (1 : Nat)) + (1 : Nat)) + (1 : Nat)) + (1 : Nat)) + (1 : Nat)) + (1 : Nat)) + (1 : Nat)) + (1 : Nat)) + (1 : Nat)) + (1 : Nat)) + (1 : Nat)) + (1 : Nat)) + (1 : Nat)) + (1 : Nat)) + (1 : Nat)) r7.2.1) r8)).bind fun r9 =>
   (r1).bind fun r10 =>
   ((Go.Lf.nth (Go.Lf.arL (Go.Lf.Ty.st (Go.Lf.Ty.pr (Go.Lf.Ty.int .i64) (Go.Lf.Ty.pr (Go.Lf.Ty.int .i64) (Go.Lf.Ty.pr (Go.Lf.Ty.int .i64) (Go.Lf.Ty.pr (Go.Lf.Ty.int .i64) (Go.Lf.Ty.pr (Go.Lf.Ty.int .i64) Go.Lf.Ty.unit)))))) (((((((((((((((((((((((((((0 : Nat) + (1 : Nat)) + (1 : Nat)) + (1 : Nat)) + (1 : Nat)) + (1 : Nat)) + (1 : Nat)) + (1 : Nat)) + (1 : Nat)) + (1 : Nat)) + (1 : Nat)) + (1 : Nat)) + (1 : Nat)) + (1 : Nat)) + (1 : Nat)) + (1 : Nat)) + (1 : Nat)) + (1 : Nat)) + (1 : Nat)) + (1 : Nat)) + (1 : Nat)) + (1 : Nat)) + (1 : Nat)) + (1 : Nat)) + (1 : Nat)) + (1 : Nat)) + (1 : Nat)) r7.2.1) r10)).bind fun r11 =>
   some (.inr ((Go.Lf.arS (Go.Lf.Ty.st (Go.Lf.Ty.pr (Go.Lf.Ty.int .i64) (Go.Lf.Ty.pr (Go.Lf.Ty.int .i64) (Go.Lf.Ty.pr (Go.Lf.Ty.int .i64) (Go.Lf.Ty.pr (Go.Lf.Ty.int .i64) (Go.Lf.Ty.pr (Go.Lf.Ty.int .i64) Go.Lf.Ty.unit)))))) (((((((((((((((((((((((((((0 : Nat) + (1 : Nat)) + (1 : Nat)) + (1 : Nat)) + (1 : Nat)) + (1 : Nat)) + (1 : Nat)) + (1 : Nat)) + (1 : Nat)) + (1 : Nat)) + (1 : Nat)) + (1 : Nat)) + (1 : Nat)) + (1 : Nat)) + (1 : Nat)) + (1 : Nat)) + (1 : Nat)) + (1 : Nat)) + (1 : Nat)) + (1 : Nat)) + (1 : Nat)) + (1 : Nat)) + (1 : Nat)) + (1 : Nat)) + (1 : Nat)) + (1 : Nat)) + (1 : Nat)) r7.2.1 r10 (r11.1, ((Go.IntKind.wrap .i64 (r9.2.1 + (1 : Int))), r11.2.2))), r7.2.2))
   else bif (decide ((a1.1 : Int) = (12 : Int))) then bif (Option.isSome r1) then some (.inl (false, a0))
   else ((Go.Fn.ir_walker__push a0 (a1.1, ((0 : Int), ((0 : Int), ((0 : Int), ((((List.length a1.2.2.2.1) : Nat) : Int), ()))))))).bind fun r12 =>
   some (.inr r12)
   else bif (decide ((a1.1 : Int) = (13 : Int))) then (((Go.Fn.ir_walker__within a0 (12 : Int))).bind fun r13 =>
     bif (!(!r13.1)) then ((Go.Fn.ir_walker__full r13.2)).bind fun r14 =>
     some ((!r14.1), r14.2)
     else some (true, r13.2)).bind fun r15 =>
   bif r15.1 then some (.inl (false, r15.2))
   else (r1).bind fun r16 =>
   ((Go.Lf.nth (Go.Lf.arL (Go.Lf.Ty.st (Go.Lf.Ty.pr (Go.Lf.Ty.int .i64) (Go.Lf.Ty.pr (Go.Lf.Ty.int .i64) (Go.Lf.Ty.pr (Go.Lf.Ty.int .i64) (Go.Lf.Ty.pr (Go.Lf.Ty.int .i64) (Go.Lf.Ty.pr (Go.Lf.Ty.int .i64) Go.Lf.Ty.unit)))))) (((((((((((((((((((((((((((0 : Nat) + (1 : Nat)) + (1 : Nat)) + (1 : Nat)) + (1 : Nat)) + (1 : Nat)) + (1 : Nat)) + (1 : Nat)) + (1 : Nat)) + (1 : Nat)) + (1 : Nat)) + (1 : Nat)) + (1 : Nat)) + (1 : Nat)) + (1 : Nat)) + (1 : Nat)) + (1 : Nat)) + (1 : Nat)) + (1 : Nat)) + (1 : Nat)) + (1 : Nat)) + (1 : Nat)) + (1 : Nat)) + (1 : Nat)) + (1 : Nat)) + (1 : Nat)) + (1 : Nat)) r15.2.1) r16)).bind fun r17 =>
   (r1).bind fun r18 =>
   ((Go.Lf.nth (Go.Lf.arL (Go.Lf.Ty.st (Go.Lf.Ty.pr (Go.Lf.Ty.int .i64) (Go.Lf.Ty.pr (Go.Lf.Ty.int .i64) (Go.Lf.Ty.pr (Go.Lf.Ty.int .i64) (Go.Lf.Ty.pr (Go.Lf.Ty.int .i64) (Go.Lf.Ty.pr (Go.Lf.Ty.int .i64) Go.Lf.Ty.unit)))))) (((((((((((((((((((((((((((0 : Nat) + (1 : Nat)) + (1 : Nat)) + (1 : Nat)) + (1 : Nat)) + (1 : Nat)) + (1 : Nat)) + (1 : Nat)) + (1 : Nat)) + (1 : Nat)) + (1 : Nat)) + (1 : Nat)) + (1 : Nat)) + (1 : Nat)) + (1 : Nat)) + (1 : Nat)) + (1 : Nat)) + (1 : Nat)) + (1 : Nat)) + (1 : Nat)) + (1 : Nat)) + (1 : Nat)) + (1 : Nat)) + (1 : Nat)) + (1 : Nat)) + (1 : Nat)) + (1 : Nat)) r15.2.1) r18)).bind fun r19 =>
   (r1).bind fun r20 =>
   ((Go.Lf.nth (Go.Lf.arL (Go.Lf.Ty.st (Go.Lf.Ty.pr (Go.Lf.Ty.int .i64) (Go.Lf.Ty.pr (Go.Lf.Ty.int .i64) (Go.Lf.Ty.pr (Go.Lf.Ty.int .i64) (Go.Lf.Ty.pr (Go.Lf.Ty.int .i64) (Go.Lf.Ty.pr (Go.Lf.Ty.int .i64) Go.Lf.Ty.unit)))))) (((((((((((((((((((((((((((0 : Nat) + (1 : Nat)) + (1 : Nat)) + (1 : Nat)) + (1 : Nat)) + (1 : Nat)) + (1 : Nat)) + (1 : Nat)) + (1 : Nat)) + (1 : Nat)) + (1 : Nat)) + (1 : Nat)) + (1 : Nat)) + (1 : Nat)) + (1 : Nat)) + (1 : Nat)) + (1 : Nat)) + (1 : Nat)) + (1 : Nat)) + (1 : Nat)) + (1 : Nat)) + (1 : Nat)) + (1 : Nat)) + (1 : Nat)) + (1 : Nat)) + (1 : Nat)) + (1 : Nat)) (Go.Lf.arS (Go.Lf.Ty.st (Go.Lf.Ty.pr (Go.Lf.Ty.int .i64) (Go.Lf.Ty.pr (Go.Lf.Ty.int .i64) (Go.Lf.Ty.pr (Go.Lf.Ty.int .i64) (Go.Lf.Ty.pr (Go.Lf.Ty.int .i64) (Go.Lf.Ty.pr (Go.Lf.Ty.int .i64) Go.Lf.Ty.unit)))))) (((((((((((((((((((((((((((0 : Nat) + (1 : Nat)) + (1 : Nat)) + (1 : Nat)) + (1 : Nat)) + (1 : Nat)) + (1 : Nat)) + (1 : Nat)) + (1 : Nat)) + (1 : Nat)) + (1 : Nat)) + (1 : Nat)) + (1 : Nat)) + (1 : Nat)) + (1 : Nat)) + (1 : Nat)) + (1 : Nat)) + (1 : Nat)) + (1 : Nat)) + (1 : Nat)) + (1 : Nat)) + (1 : Nat)) + (1 : Nat)) + (1 : Nat)) + (1 : Nat)) + (1 : Nat)) + (1 : Nat)) r15.2.1 r18 (r19.1, (r19.2.1, ((Go.IntKind.wrap .i64 (r17.2.2.1 + (1 : Int))), r19.2.2.2))))) r20)).bind fun r21 =>
   some (.inr ((Go.Lf.arS (Go.Lf.Ty.st (Go.Lf.Ty.pr (Go.Lf.Ty.int .i64) (Go.Lf.Ty.pr (Go.Lf.Ty.int .i64) (Go.Lf.Ty.pr (Go.Lf.Ty.int .i64) (Go.Lf.Ty.pr (Go.Lf.Ty.int .i64) (Go.Lf.Ty.pr (Go.Lf.Ty.int .i64) Go.Lf.Ty.unit)))))) (((((((((((((((((((((((((((0 : Nat) + (1 : Nat)) + (1 : Nat)) + (1 : Nat)) + (1 : Nat)) + (1 : Nat)) + (1 : Nat)) + (1 : Nat)) + (1 : Nat)) + (1 : Nat)) + (1 : Nat)) + (1 : Nat)) + (1 : Nat)) + (1 : Nat)) + (1 : Nat)) + (1 : Nat)) + (1 : Nat)) + (1 : Nat)) + (1 : Nat)) + (1 : Nat)) + (1 : Nat)) + (1 : Nat)) + (1 : Nat)) + (1 : Nat)) + (1 : Nat)) + (1 : Nat)) + (1 : Nat)) (Go.Lf.arS (Go.Lf.Ty.st (Go.Lf.Ty.pr (Go.Lf.Ty.int .i64) (Go.Lf.Ty.pr (Go.Lf.Ty.int .i64) (Go.Lf.Ty.pr (Go.Lf.Ty.int .i64) (Go.Lf.Ty.pr (Go.Lf.Ty.int .i64) (Go.Lf.Ty.pr (Go.Lf.Ty.int .i64) Go.Lf.Ty.unit)))))) (((((((((((((((((((((((((((0 : Nat) + (1 : Nat)) + (1 : Nat)) + (1 : Nat)) + (1 : Nat)) + (1 : Nat)) + (1 : Nat)) + (1 : Nat)) + (1 : Nat)) + (1 : Nat)) + (1 : Nat)) + (1 : Nat)) + (1 : Nat)) + (1 : Nat)) + (1 : Nat)) + (1 : Nat)) + (1 : Nat)) + (1 : Nat)) + (1 : Nat)) + (1 : Nat)) + (1 : Nat)) + (1 : Nat)) + (1 : Nat)) + (1 : Nat)) + (1 : Nat)) + (1 : Nat)) + (1 : Nat)) r15.2.1 r18 (r19.1, (r19.2.1, ((Go.IntKind.wrap .i64 (r17.2.2.1 + (1 : Int))), r19.2.2.2)))) r20 (r21.1, (r21.2.1, (r21.2.2.1, ((0 : Int), r21.2.2.2.2))))), r15.2.2))
   else (bif (!(Option.isNone r1)) then (r1).bind fun r22 =>
     ((Go.Lf.nth (Go.Lf.arL (Go.Lf.Ty.st (Go.Lf.Ty.pr (Go.Lf.Ty.int .i64) (Go.Lf.Ty.pr (Go.Lf.Ty.int .i64) (Go.Lf.Ty.pr (Go.Lf.Ty.int .i64) (Go.Lf.Ty.pr (Go.Lf.Ty.int .i64) (Go.Lf.Ty.pr (Go.Lf.Ty.int .i64) Go.Lf.Ty.unit)))))) (((((((((((((((((((((((((((0 : Nat) + (1 : Nat)) + (1 : Nat)) + (1 : Nat)) + (1 : Nat)) + (1 : Nat)) + (1 : Nat)) + (1 : Nat)) + (1 : Nat)) + (1 : Nat)) + (1 : Nat)) + (1 : Nat)) + (1 : Nat)) + (1 : Nat)) + (1 : Nat)) + (1 : Nat)) + (1 : Nat)) + (1 : Nat)) + (1 : Nat)) + (1 : Nat)) + (1 : Nat)) + (1 : Nat)) + (1 : Nat)) + (1 : Nat)) + (1 : Nat)) + (1 : Nat)) + (1 : Nat)) a0.1) r22)).bind fun r23 =>
     bif (decide ((r23.1 : Int) = (12 : Int))) then ((Go.Fn.ir_walker__full a0)).bind fun r24 =>
     some ((!r24.1), r24.2)
     else some (false, a0)
     else some (true, a0)).bind fun r25 =>
   bif r25.1 then some (.inl (false, r25.2))
   else some (.inr (r25.2.1, ((Go.IntKind.wrap .i64 (r25.2.2.1 - (1 : Int))), r25.2.2.2))) : Option (((Bool) × qT74) ⊕ qT74)).bind fun r26 =>
 Go.Lf.onSum r26 (fun a27 =>
 some (a27.1, a27.2)) (fun b28 =>
 some (true, b28))
theorem ir_walker__block_eq (a0 : (((Int) × qT7) × qT73) × qT7) (a1 : (Int) × ((Int) × qT4)) : Go.Lf.fnE ir_walker__blockCtx ir_walker__blockCode ir_walker__blockAnn [.obj 165 qY81 qY81 [], .val (.st qY17)] [.bool] [.tmp 4] (a0, a1) = ir_walker__block a0 a1 := by kernel_rfl
noncomputable def ir_walker__blockEnt : Nat × Go.Lf.Entry := (116, ⟨[.obj 165 qY81 qY81 [], .val (.st qY17)], [.bool], fun z => ir_walker__block z.1 z.2⟩)
theorem ir_walker__block_ok : Go.Lf.EntryOk Go.Proofs.Tryz.prog GG 116 ir_walker__blockEnt.2 :=
  Go.Lf.fn_ok (c := ir_walker__blockCtx) (code := ir_walker__blockCode) (an := ir_walker__blockAnn) (slots := [.tmp 4]) (fn := Go.Proofs.Tryz.f116) (by kernel_rfl) ⟨Tys_ok, Go.Lf.FnsOk.look (.con ir_walker__push_ok (.con ir_walker__within_ok (.con ir_walker__item_ok (.con ir_walker__full_ok .nil)))), Go.Lf.IpsOk.look (.con ir_walker__top_ok .nil)⟩ (by kernel_rfl) (by kernel_rfl) (by kernel_rfl) (by kernel_rfl) (by kernel_rfl) (Nat.le_of_ble_eq_true rfl) (by simp [Go.Lf.Ty.top]) (by simp [Go.Lf.Ty.top]) fun z r h => (ir_walker__block_eq z.1 z.2).trans h
noncomputable def ir_walker__placeCtx : Go.Lf.Ctx := ⟨122, Tys, [ir_walker__paraEnt, ir_walker__pushEnt, ir_walker__withinEnt, ir_walker__blockEnt], [], [], [], [ir_walker__topIp]⟩
noncomputable def ir_walker__placeCode : Go.Code := (Go.Proofs.Tryz.f71.body).getD .skip
def ir_walker__placeAnn : Go.Lf.Ann := (.seq .no (.seq .no (.seq (.seq .no (.seq (.seq (.seq (.join (.more .nrm ⟨[5], [(0, 0, [], 0), (3, 3, [], 0)], [], [(0, 165, qY81), (3, 61, (.st qY17))], []⟩ (.more (.ext 4) ⟨[5], [(0, 0, [], 0)], [], [(0, 165, qY81)], []⟩ (.more (.ext 5) ⟨[5], [(0, 0, [], 0)], [], [(0, 165, qY81)], []⟩ (.more (.ext 0) ⟨[5], [(0, 0, [], 0), (3, 3, [], 0)], [], [(0, 165, qY81), (3, 61, (.st qY17))], []⟩ (.one .ret ⟨[], [(0, 0, [], 0)], [(4, .bool)], [(0, 165, qY81)], []⟩))))) (.seq (.seq (.seq (.seq (.seq (.join (.one .nrm ⟨[5, 11], [(0, 0, [], 0), (3, 3, [], 0)], [(12, .bool)], [(0, 165, qY81), (3, 61, (.st qY17))], []⟩) .no) .no) (.seq (.seq (.join (.one .nrm ⟨[5, 11], [(0, 0, [], 0), (3, 3, [], 0)], [(16, .bool)], [(0, 165, qY81), (3, 61, (.st qY17))], []⟩) .no) .no) .no)) .no) .no) (.seq .no (.loop ⟨[5], [(0, 0, [], 0), (3, 3, [], 0)], [(6, (.int .i64))], [(0, 165, qY81), (3, 61, (.st qY17))], []⟩ (.more (.ext 6) ⟨[5], [(0, 0, [], 0), (3, 3, [], 0)], [], [(0, 165, qY81), (3, 61, (.st qY17))], []⟩ (.one .ret ⟨[], [(0, 0, [], 0)], [(4, .bool)], [(0, 165, qY81)], []⟩)) (.seq .no (.seq (.seq .no (.seq (.join (.one .nrm ⟨[5, 6], [(0, 0, [], 0), (3, 3, [], 0)], [(49, .bool)], [(0, 165, qY81), (3, 61, (.st qY17))], []⟩) .no) .no)) .no)))))) (.seq (.seq (.seq (.join (.one .nrm ⟨[], [(0, 0, [], 0), (3, 3, [], 0)], [(61, .bool)], [(0, 165, qY81), (3, 61, (.st qY17))], []⟩) .no) .no) .no) .no)) (.seq (.seq (.seq (.join (.one .nrm ⟨[], [(0, 0, [], 0)], [(78, .bool)], [(0, 165, qY81)], []⟩) .no) .no) .no) .no)) (.seq (.seq (.seq (.join (.one .nrm ⟨[], [(0, 0, [], 0)], [(97, .bool)], [(0, 165, qY81)], []⟩) .no) .no) (.seq .no (.seq (.join (.one .nrm ⟨[], [(0, 0, [], 0)], [], [(0, 165, qY81)], []⟩) .no) .no))) .no))) (.seq (.join (.one .nrm ⟨[], [(0, 0, [], 0)], [(4, .bool)], [(0, 165, qY81)], []⟩) .no) .no))))
noncomputable def ir_walker__place (a0 : (((Int) × qT7) × qT73) × qT7) (a1 : (Int) × ((Int) × qT4)) : Option ((Bool) × qT74) :=
 ((Go.Fn.ir_walker__para a0)).bind fun r1 =>
 ((bif (decide ((a1.1 : Int) = (1 : Int))) then some ((decide ((a1.1 : Int) = (1 : Int))), (r1.2, a1))
     else bif (decide ((a1.1 : Int) = (6 : Int))) then some ((decide ((a1.1 : Int) = (6 : Int))), (r1.2, a1))
     else some ((decide ((a1.1 : Int) = (7 : Int))), (r1.2, a1))).bind fun r2 =>
   bif r2.1 then some (.inr (.inr (.inr (.inr ((decide ((0 : Int) ≤ r1.1)), r2.2.1)))))
   else (bif (decide ((a1.1 : Int) = (3 : Int))) then some ((decide ((a1.1 : Int) = (3 : Int))), (r2.2.1, r2.2.2))
     else some ((decide ((a1.1 : Int) = (4 : Int))), (r2.2.1, r2.2.2))).bind fun r3 =>
   bif r3.1 then (Go.Lf.loopC (σ := (Int) × (qT74 × ((Int) × ((Int) × qT4)))) (κ := (qT74 × ((Int) × ((Int) × qT4))) ⊕ ((Bool) × qT74)) (fun z4 =>
       bif (decide (z4.1 < z4.2.1.2.1)) then ((Go.Lf.chk (((((((((((((((((((((((((((0 : Nat) + (1 : Nat)) + (1 : Nat)) + (1 : Nat)) + (1 : Nat)) + (1 : Nat)) + (1 : Nat)) + (1 : Nat)) + (1 : Nat)) + (1 : Nat)) + (1 : Nat)) + (1 : Nat)) + (1 : Nat)) + (1 : Nat)) + (1 : Nat)) + (1 : Nat)) + (1 : Nat)) + (1 : Nat)) + (1 : Nat)) + (1 : Nat)) + (1 : Nat)) + (1 : Nat)) + (1 : Nat)) + (1 : Nat)) + (1 : Nat)) + (1 : Nat)) + (1 : Nat)) z4.1)).bind fun r5 =>
       ((Go.Lf.nth (Go.Lf.arL (Go.Lf.Ty.st (Go.Lf.Ty.pr (Go.Lf.Ty.int .i64) (Go.Lf.Ty.pr (Go.Lf.Ty.int .i64) (Go.Lf.Ty.pr (Go.Lf.Ty.int .i64) (Go.Lf.Ty.pr (Go.Lf.Ty.int .i64) (Go.Lf.Ty.pr (Go.Lf.Ty.int .i64) Go.Lf.Ty.unit)))))) (((((((((((((((((((((((((((0 : Nat) + (1 : Nat)) + (1 : Nat)) + (1 : Nat)) + (1 : Nat)) + (1 : Nat)) + (1 : Nat)) + (1 : Nat)) + (1 : Nat)) + (1 : Nat)) + (1 : Nat)) + (1 : Nat)) + (1 : Nat)) + (1 : Nat)) + (1 : Nat)) + (1 : Nat)) + (1 : Nat)) + (1 : Nat)) + (1 : Nat)) + (1 : Nat)) + (1 : Nat)) + (1 : Nat)) + (1 : Nat)) + (1 : Nat)) + (1 : Nat)) + (1 : Nat)) + (1 : Nat)) z4.2.1.1) r5)).bind fun r6 =>
       (bif (!(decide ((r6.1 : Int) = (3 : Int)))) then some ((decide ((r6.1 : Int) = (4 : Int))), (z4.2.1, z4.2.2))
         else some (true, (z4.2.1, z4.2.2))).bind fun r7 =>
       bif r7.1 then some (.inr (.inr (false, r7.2.1)))
       else some (.inl ((Go.IntKind.wrap .i64 (z4.1 + (1 : Int))), (r7.2.1, r7.2.2)))
       else some (.inr (.inl (z4.2.1, z4.2.2)))) ((Max.max r1.1 (0 : Int)), (r3.2.1, r3.2.2)) : Option ((qT74 × ((Int) × ((Int) × qT4))) ⊕ ((Bool) × qT74))).bind fun r8 =>
   Go.Lf.onSum r8 (fun a9 =>
   some (.inl (a9.1, a9.2))) (fun b10 =>
   some (.inr (.inr (.inr (.inr (b10.1, b10.2))))))
   else bif (decide ((a1.1 : Int) = (2 : Int))) then some (.inl (r3.2.1, r3.2.2))
   else bif (decide ((a1.1 : Int) = (5 : Int))) then some (.inr (.inl r3.2.1))
   else bif (decide ((a1.1 : Int) = (9 : Int))) then some (.inr (.inr (.inl r3.2.1)))
   else some (.inr (.inr (.inr (.inl (r3.2.1, r3.2.2))))) : Option ((qT74 × ((Int) × ((Int) × qT4))) ⊕ (qT74 ⊕ (qT74 ⊕ ((qT74 × ((Int) × ((Int) × qT4))) ⊕ ((Bool) × qT74)))))).bind fun r11 =>
 Go.Lf.onSum r11 (fun a12 =>
 (bif (!(decide (r1.1 < (0 : Int)))) then some ((decide ((16 : Int) ≤ (Go.IntKind.wrap .i64 ((Go.IntKind.wrap .i64 (a12.1.2.1 - r1.1)) - (1 : Int))))), (a12.1, a12.2))
   else some (true, (a12.1, a12.2))).bind fun r13 =>
 bif r13.1 then some (false, r13.2.1)
 else ((Go.Fn.ir_walker__push r13.2.1 (r13.2.2.1, ((0 : Int), ((0 : Int), ((0 : Int), ((0 : Int), ()))))))).bind fun r14 =>
 some (true, r14)) (fun b15 =>
 Go.Lf.onSum b15 (fun a16 =>
 (bif (!(decide (r1.1 < (0 : Int)))) then some ((decide ((Go.IntKind.wrap .i64 ((Go.IntKind.wrap .i64 (a16.2.1 - r1.1)) - (1 : Int))) < (1 : Int))), a16)
   else some (true, a16)).bind fun r17 =>
 bif r17.1 then some (false, r17.2)
 else some (true, (r17.2.1, ((Go.IntKind.wrap .i64 (r17.2.2.1 - (1 : Int))), r17.2.2.2)))) (fun b18 =>
 Go.Lf.onSum b18 (fun a19 =>
 (bif (!(decide (r1.1 < (0 : Int)))) then some ((decide ((0 : Int) < (Go.IntKind.wrap .i64 ((Go.IntKind.wrap .i64 (a19.2.1 - r1.1)) - (1 : Int))))), a19)
   else some (true, a19)).bind fun r20 =>
 bif r20.1 then some (false, r20.2)
 else (((Go.Fn.ir_walker__within (r20.2.1, ((Go.IntKind.wrap .i64 (r20.2.2.1 - (1 : Int))), r20.2.2.2)) (12 : Int))).bind fun r21 =>
   bif r21.1 then ((Go.Fn.ir_walker__top r21.2)).bind fun r22 =>
   (r22).bind fun r23 =>
   ((Go.Lf.nth (Go.Lf.arL (Go.Lf.Ty.st (Go.Lf.Ty.pr (Go.Lf.Ty.int .i64) (Go.Lf.Ty.pr (Go.Lf.Ty.int .i64) (Go.Lf.Ty.pr (Go.Lf.Ty.int .i64) (Go.Lf.Ty.pr (Go.Lf.Ty.int .i64) (Go.Lf.Ty.pr (Go.Lf.Ty.int .i64) Go.Lf.Ty.unit)))))) (((((((((((((((((((((((((((0 : Nat) + (1 : Nat)) + (1 : Nat)) + (1 : Nat)) + (1 : Nat)) + (1 : Nat)) + (1 : Nat)) + (1 : Nat)) + (1 : Nat)) + (1 : Nat)) + (1 : Nat)) + (1 : Nat)) + (1 : Nat)) + (1 : Nat)) + (1 : Nat)) + (1 : Nat)) + (1 : Nat)) + (1 : Nat)) + (1 : Nat)) + (1 : Nat)) + (1 : Nat)) + (1 : Nat)) + (1 : Nat)) + (1 : Nat)) + (1 : Nat)) + (1 : Nat)) + (1 : Nat)) r21.2.1) r23)).bind fun r24 =>
   (r22).bind fun r25 =>
   ((Go.Lf.nth (Go.Lf.arL (Go.Lf.Ty.st (Go.Lf.Ty.pr (Go.Lf.Ty.int .i64) (Go.Lf.Ty.pr (Go.Lf.Ty.int .i64) (Go.Lf.Ty.pr (Go.Lf.Ty.int .i64) (Go.Lf.Ty.pr (Go.Lf.Ty.int .i64) (Go.Lf.Ty.pr (Go.Lf.Ty.int .i64) Go.Lf.Ty.unit)))))) (((((((((((((((((((((((((((0 : Nat) + (1 : Nat)) + (1 : Nat)) + (1 : Nat)) + (1 : Nat)) + (1 : Nat)) + (1 : Nat)) + (1 : Nat)) + (1 : Nat)) + (1 : Nat)) + (1 : Nat)) + (1 : Nat)) + (1 : Nat)) + (1 : Nat)) + (1 : Nat)) + (1 : Nat)) + (1 : Nat)) + (1 : Nat)) + (1 : Nat)) + (1 : Nat)) + (1 : Nat)) + (1 : Nat)) + (1 : Nat)) + (1 : Nat)) + (1 : Nat)) + (1 : Nat)) + (1 : Nat)) r21.2.1) r25)).bind fun r26 =>
   some ((Go.Lf.arS (Go.Lf.Ty.st (Go.Lf.Ty.pr (Go.Lf.Ty.int .i64) (Go.Lf.Ty.pr (Go.Lf.Ty.int .i64) (Go.Lf.Ty.pr (Go.Lf.Ty.int .i64) (Go.Lf.Ty.pr (Go.Lf.Ty.int .i64) (Go.Lf.Ty.pr (Go.Lf.Ty.int .i64) Go.Lf.Ty.unit)))))) (((((((((((((((((((((((((((0 : Nat) + (1 : Nat)) + (1 : Nat)) + (1 : Nat)) + (1 : Nat)) + (1 : Nat)) + (1 : Nat)) + (1 : Nat)) + (1 : Nat)) + (1 : Nat)) + (1 : Nat)) + (1 : Nat)) + (1 : Nat)) + (1 : Nat)) + (1 : Nat)) + (1 : Nat)) + (1 : Nat)) + (1 : Nat)) + (1 : Nat)) + (1 : Nat)) + (1 : Nat)) + (1 : Nat)) + (1 : Nat)) + (1 : Nat)) + (1 : Nat)) + (1 : Nat)) + (1 : Nat)) r21.2.1 r25 (r26.1, (r26.2.1, (r26.2.2.1, ((Go.IntKind.wrap .i64 (r24.2.2.2.1 + (1 : Int))), r26.2.2.2.2))))), r21.2.2)
   else some r21.2).bind fun r27 =>
 some (true, r27)) (fun b28 =>
 Go.Lf.onSum b28 (fun a29 =>
 (bif (decide (r1.1 < (0 : Int))) then ((Go.Fn.ir_walker__block a29.1 a29.2)).bind fun r30 =>
   some (r30.1, r30.2)
   else some (false, a29.1)).bind fun r31 =>
 some (r31.1, r31.2)) (fun b32 =>
 some (b32.1, b32.2)))))
theorem ir_walker__place_eq (a0 : (((Int) × qT7) × qT73) × qT7) (a1 : (Int) × ((Int) × qT4)) : Go.Lf.fnE ir_walker__placeCtx ir_walker__placeCode ir_walker__placeAnn [.obj 165 qY81 qY81 [], .val (.st qY17)] [.bool] [.tmp 4] (a0, a1) = ir_walker__place a0 a1 := by kernel_rfl
noncomputable def ir_walker__placeEnt : Nat × Go.Lf.Entry := (71, ⟨[.obj 165 qY81 qY81 [], .val (.st qY17)], [.bool], fun z => ir_walker__place z.1 z.2⟩)
theorem ir_walker__place_ok : Go.Lf.EntryOk Go.Proofs.Tryz.prog GG 71 ir_walker__placeEnt.2 :=
  Go.Lf.fn_ok (c := ir_walker__placeCtx) (code := ir_walker__placeCode) (an := ir_walker__placeAnn) (slots := [.tmp 4]) (fn := Go.Proofs.Tryz.f71) (by kernel_rfl) ⟨Tys_ok, Go.Lf.FnsOk.look (.con ir_walker__para_ok (.con ir_walker__push_ok (.con ir_walker__within_ok (.con ir_walker__block_ok .nil)))), Go.Lf.IpsOk.look (.con ir_walker__top_ok .nil)⟩ (by kernel_rfl) (by kernel_rfl) (by kernel_rfl) (by kernel_rfl) (by kernel_rfl) (Nat.le_of_ble_eq_true rfl) (by simp [Go.Lf.Ty.top]) (by simp [Go.Lf.Ty.top]) fun z r h => (ir_walker__place_eq z.1 z.2).trans h
noncomputable def ir_CheckCtx : Go.Lf.Ctx := ⟨69, Tys, [ir_walker__formEnt, ir_walker__placeEnt], [], [], [], []⟩
noncomputable def ir_CheckCode : Go.Code := (Go.Proofs.Tryz.f24.body).getD .skip
def ir_CheckAnn : Go.Lf.Ann := (.seq .no (.seq .no (.seq (.seq .no (.loop ⟨[14, 0, 2, 1, 15], [], [(16, (.int .i64)), (8, (.int .i64))], [], []⟩ (.one (.ext 0) ⟨[0, 2, 1], [], [(8, (.int .i64))], [], []⟩) .no)) (.seq (.seq (.join (.one .nrm ⟨[0, 2, 1], [], [(33, .bool)], [], []⟩) .no) .no) (.seq .no (.seq (.seq .no (.loop ⟨[38, 0, 39], [(11, 37, [], 0)], [(40, (.int .i64))], [(37, 165, qY81)], []⟩ (.more (.ext 2) ⟨[0], [(11, 37, [], 0)], [], [(37, 165, qY81)], []⟩ (.one .ret ⟨[], [], [(6, (.int .i64)), (7, (.int .i64))], [], []⟩)) (.seq .no (.seq .no (.seq (.seq .no (.seq (.seq (.join (.one .nrm ⟨[12, 38, 0, 39, 40], [(11, 37, [], 0), (13, 13, [], 0)], [(54, .bool)], [(37, 165, qY81), (13, 61, (.st qY17))], []⟩) .no) .no) .no)) .no))))) .no))))))
noncomputable def ir_Check (a0 : List ((Int) × ((Int) × qT4))) (a1 : Int) (a2 : Int) : Option ((Int) × (Int)) :=
 (Go.Lf.loopC (σ := (Int) × (Int)) (κ := Int) (fun z1 =>
     bif (decide (z1.1 < (((List.length a0) : Nat) : Int))) then ((Go.Lf.idx a0 z1.1)).bind fun r2 =>
     some (.inl ((Go.IntKind.wrap .i64 (z1.1 + (1 : Int))), (Min.min (Go.IntKind.wrap .i64 (z1.2 + (((List.length r2.2.2.1) : Nat) : Int))) (16385 : Int))))
     else some (.inr z1.2)) ((0 : Int), (0 : Int)) : Option (Int)).bind fun r3 =>
 (bif (!(decide ((65536 : Int) < (((List.length a0) : Nat) : Int)))) then some (decide ((16384 : Int) < r3))
   else some true).bind fun r4 =>
 bif r4 then some ((0 : Int), (2 : Int))
 else (Go.Lf.loopC (σ := (Int) × qT74) (κ := qT74 ⊕ ((Int) × (Int))) (fun z5 =>
     bif (decide (z5.1 < (((List.length a0) : Nat) : Int))) then ((Go.Lf.idx a0 z5.1)).bind fun r6 =>
     (((Go.Fn.ir_walker__form z5.2 r6)).bind fun r7 =>
       bif (!(!r7.1)) then ((Go.Fn.ir_walker__place r7.2 r6)).bind fun r8 =>
       some ((!r8.1), (r8.2, r6))
       else some (true, (r7.2, r6))).bind fun r9 =>
     bif r9.1 then some (.inr (.inr (z5.1, (110 : Int))))
     else some (.inl ((Go.IntKind.wrap .i64 (z5.1 + (1 : Int))), (r9.2.1.1, (r9.2.1.2.1, (r9.2.1.2.2.1, (r9.2.1.2.2.2.1, (r9.2.2.1, r9.2.1.2.2.2.2.2)))))))
     else some (.inr (.inl z5.2))) ((0 : Int), ((((0 : Int), ((0 : Int), ((0 : Int), ((0 : Int), ((0 : Int), ()))))), (((0 : Int), ((0 : Int), ((0 : Int), ((0 : Int), ((0 : Int), ()))))), (((0 : Int), ((0 : Int), ((0 : Int), ((0 : Int), ((0 : Int), ()))))), (((0 : Int), ((0 : Int), ((0 : Int), ((0 : Int), ((0 : Int), ()))))), (((0 : Int), ((0 : Int), ((0 : Int), ((0 : Int), ((0 : Int), ()))))), (((0 : Int), ((0 : Int), ((0 : Int), ((0 : Int), ((0 : Int), ()))))), (((0 : Int), ((0 : Int), ((0 : Int), ((0 : Int), ((0 : Int), ()))))), (((0 : Int), ((0 : Int), ((0 : Int), ((0 : Int), ((0 : Int), ()))))), (((0 : Int), ((0 : Int), ((0 : Int), ((0 : Int), ((0 : Int), ()))))), (((0 : Int), ((0 : Int), ((0 : Int), ((0 : Int), ((0 : Int), ()))))), (((0 : Int), ((0 : Int), ((0 : Int), ((0 : Int), ((0 : Int), ()))))), (((0 : Int), ((0 : Int), ((0 : Int), ((0 : Int), ((0 : Int), ()))))), (((0 : Int), ((0 : Int), ((0 : Int), ((0 : Int), ((0 : Int), ()))))), (((0 : Int), ((0 : Int), ((0 : Int), ((0 : Int), ((0 : Int), ()))))), (((0 : Int), ((0 : Int), ((0 : Int), ((0 : Int), ((0 : Int), ()))))), (((0 : Int), ((0 : Int), ((0 : Int), ((0 : Int), ((0 : Int), ()))))), (((0 : Int), ((0 : Int), ((0 : Int), ((0 : Int), ((0 : Int), ()))))), (((0 : Int), ((0 : Int), ((0 : Int), ((0 : Int), ((0 : Int), ()))))), (((0 : Int), ((0 : Int), ((0 : Int), ((0 : Int), ((0 : Int), ()))))), (((0 : Int), ((0 : Int), ((0 : Int), ((0 : Int), ((0 : Int), ()))))), (((0 : Int), ((0 : Int), ((0 : Int), ((0 : Int), ((0 : Int), ()))))), (((0 : Int), ((0 : Int), ((0 : Int), ((0 : Int), ((0 : Int), ()))))), (((0 : Int), ((0 : Int), ((0 : Int), ((0 : Int), ((0 : Int), ()))))), (((0 : Int), ((0 : Int), ((0 : Int), ((0 : Int), ((0 : Int), ()))))), (((0 : Int), ((0 : Int), ((0 : Int), ((0 : Int), ((0 : Int), ()))))), (((0 : Int), ((0 : Int), ((0 : Int), ((0 : Int), ((0 : Int), ()))))), ())))))))))))))))))))))))))), ((0 : Int), (a1, (a2, ((0 : Int), ())))))) : Option (qT74 ⊕ ((Int) × (Int)))).bind fun r10 =>
 Go.Lf.onSum r10 (fun a11 =>
 bif (decide ((0 : Int) < a11.2.1)) then some ((((List.length a0) : Nat) : Int), (110 : Int))
 else some ((0 : Int), (0 : Int))) (fun b12 =>
 some (b12.1, b12.2))
theorem ir_Check_eq (a0 : List ((Int) × ((Int) × qT4))) (a1 : Int) (a2 : Int) : Go.Lf.fnE ir_CheckCtx ir_CheckCode ir_CheckAnn [.val (.sl (.st qY17)), .val (.int .i64), .val (.int .i64)] [(.int .i64), (.int .i64)] [.tmp 6, .tmp 7] (a0, a1, a2) = ir_Check a0 a1 a2 := by kernel_rfl
noncomputable def ir_CheckEnt : Nat × Go.Lf.Entry := (24, ⟨[.val (.sl (.st qY17)), .val (.int .i64), .val (.int .i64)], [(.int .i64), (.int .i64)], fun z => ir_Check z.1 z.2.1 z.2.2⟩)
theorem ir_Check_ok : Go.Lf.EntryOk Go.Proofs.Tryz.prog GG 24 ir_CheckEnt.2 :=
  Go.Lf.fn_ok (c := ir_CheckCtx) (code := ir_CheckCode) (an := ir_CheckAnn) (slots := [.tmp 6, .tmp 7]) (fn := Go.Proofs.Tryz.f24) (by kernel_rfl) ⟨Tys_ok, Go.Lf.FnsOk.look (.con ir_walker__form_ok (.con ir_walker__place_ok .nil)), Go.Lf.IpsOk.look .nil⟩ (by kernel_rfl) (by kernel_rfl) (by kernel_rfl) (by kernel_rfl) (by kernel_rfl) (Nat.le_of_ble_eq_true rfl) (by simp [Go.Lf.Ty.top]) (by simp [Go.Lf.Ty.top]) fun z r h => (ir_Check_eq z.1 z.2.1 z.2.2).trans h
noncomputable def ir_LowerCtx : Go.Lf.Ctx := ⟨57, Tys, [ir_CheckEnt, fault_NewEnt, ir_lowerer__blockEnt], [8, 56], [], [(8, (.rw 61 (.st qY17))), (19, (.st (.pr qY30 qY47))), (56, (.rw 61 (.st qY17))), (3000044, (.dead 20 (.st (.pr .unit (.pr .unit (.pr .unit (.pr .bool .unit)))))))], []⟩
noncomputable def ir_LowerCode : Go.Code := (Go.Proofs.Tryz.f20.body).getD .skip
def ir_LowerAnn : Go.Lf.Ann := (.seq .no (.seq .no (.seq (.seq .no (.loop ⟨[22, 3, 1, 0, 23], [(10, 20, [], 0), (6, 6, [], 0)], [(24, (.int .i64))], [(20, 141, (.st (.pr qY30 qY47))), (6, 71, (.st qY56))], []⟩ (.more (.ext 0) ⟨[3, 1, 0], [(6, 6, [], 0), (10, 20, [], 0)], [], [(6, 71, (.st qY56)), (20, 141, (.st (.pr qY30 qY47)))], []⟩ (.one .ret ⟨[], [], [(8, (.rw 61 (.st qY17))), (9, (.eb 180 (.st qY41)))], [], []⟩)) .no)) (.seq (.seq (.opo 20 [.i, .r, .r, .r, .l] .no) .no) .no))))
noncomputable def ir_Lower (a0 : List qT20) (a1 : List qT19) (a2 : (Int) × ((List (UInt8)) × qT52)) (a3 : Int) : Option (qT14 × (Option qT35)) :=
 (Go.Lf.loopC (σ := (Int) × (qT48 × qT54)) (κ := (qT54 × qT48) ⊕ (qT14 × (Option qT35))) (fun z1 =>
     bif (decide (z1.1 < (((List.length a2.2.2.2.2.2.2.1) : Nat) : Int))) then ((Go.Lf.idx a2.2.2.2.2.2.2.1 z1.1)).bind fun r2 =>
     ((Go.Fn.ir_lowerer__block z1.2.1 r2)).bind fun r3 =>
     bif (Option.isSome r3.1) then some (.inr (.inr (([] : List ((Int) × ((Int) × qT4))), r3.1)))
     else some (.inl ((Go.IntKind.wrap .i64 (z1.1 + (1 : Int))), (r3.2, z1.2.2)))
     else some (.inr (.inl (z1.2.2, z1.2.1)))) ((0 : Int), ((a0, (a1, (a3, (([] : List ((Int) × ((Int) × qT4))), ())))), a2)) : Option ((qT54 × qT48) ⊕ (qT14 × (Option qT35)))).bind fun r4 =>
 Go.Lf.onSum r4 (fun a5 =>
 ((Go.Fn.ir_Check a5.2.2.2.2.1 (((List.length a0) : Nat) : Int) (((List.length a1) : Nat) : Int))).bind fun r6 =>
 bif (decide ((r6.2 : Int) ≠ (0 : Int))) then ((Go.Fn.fault_New (110 : Int) a3 a5.1.2.2.2.2.2.2.2.1 (0 : Int) ([] : List (UInt8)))).bind fun r7 =>
 some (([] : List ((Int) × ((Int) × qT4))), r7)
 else some (a5.2.2.2.2.1, (none : Option qT35))) (fun b8 =>
 some (b8.1, b8.2))
theorem ir_Lower_eq (a0 : List qT20) (a1 : List qT19) (a2 : (Int) × ((List (UInt8)) × qT52)) (a3 : Int) : Go.Lf.fnE ir_LowerCtx ir_LowerCode ir_LowerAnn [.val qY30, .val (.sl (.st qY25)), .val (.st qY56), .val (.int .i64)] [(.sl (.st qY17)), (.eb 180 (.st qY41))] [.tmp 8, .tmp 9] (a0, a1, a2, a3) = ir_Lower a0 a1 a2 a3 := by kernel_rfl
noncomputable def ir_LowerEnt : Nat × Go.Lf.Entry := (20, ⟨[.val qY30, .val (.sl (.st qY25)), .val (.st qY56), .val (.int .i64)], [(.sl (.st qY17)), (.eb 180 (.st qY41))], fun z => ir_Lower z.1 z.2.1 z.2.2.1 z.2.2.2⟩)
theorem ir_Lower_ok : Go.Lf.EntryOk Go.Proofs.Tryz.prog GG 20 ir_LowerEnt.2 :=
  Go.Lf.fn_ok (c := ir_LowerCtx) (code := ir_LowerCode) (an := ir_LowerAnn) (slots := [.tmp 8, .tmp 9]) (fn := Go.Proofs.Tryz.f20) (by kernel_rfl) ⟨Tys_ok, Go.Lf.FnsOk.look (.con ir_Check_ok (.con fault_New_ok (.con ir_lowerer__block_ok .nil))), Go.Lf.IpsOk.look .nil⟩ (by kernel_rfl) (by kernel_rfl) (by kernel_rfl) (by kernel_rfl) (by kernel_rfl) (Nat.le_of_ble_eq_true rfl) (by simp [Go.Lf.Ty.top]) (by simp [Go.Lf.Ty.top]) fun z r h => (ir_Lower_eq z.1 z.2.1 z.2.2.1 z.2.2.2).trans h
noncomputable def ir_TextCtx : Go.Lf.Ctx := ⟨22, Tys, [], [3, 15], [], [(3, (.rw 5 (.int .u8))), (15, (.rw 5 (.int .u8)))], []⟩
noncomputable def ir_TextCode : Go.Code := (Go.Proofs.Tryz.f25.body).getD .skip
def ir_TextAnn : Go.Lf.Ann := (.seq .no (.seq .no (.seq (.seq .no (.loop ⟨[6, 7], [], [(8, (.int .i64)), (3, (.rw 5 (.int .u8)))], [], []⟩ (.one (.ext 0) ⟨[], [], [(3, (.rw 5 (.int .u8)))], [], []⟩) (.seq .no (.seq .no (.seq (.join (.one .nrm ⟨[6, 7, 8], [], [(3, (.rw 5 (.int .u8)))], [], []⟩) .no) .no))))) .no)))
noncomputable def ir_Text (a0 : List ((Int) × ((Int) × qT4))) : Option (List (UInt8)) :=
 (Go.Lf.loopC (σ := (Int) × (List (Int))) (κ := List (Int)) (fun z1 =>
     bif (decide (z1.1 < (((List.length a0) : Nat) : Int))) then (((Go.Lf.idx a0 z1.1)).bind fun r2 =>
       bif (decide ((r2.1 : Int) = (1 : Int))) then ((Go.Lf.app (1 : Nat) z1.2 (Go.Lf.bytesI r2.2.2.1))).bind fun r3 =>
       some r3
       else some z1.2).bind fun r4 =>
     some (.inl ((Go.IntKind.wrap .i64 (z1.1 + (1 : Int))), r4))
     else some (.inr z1.2)) ((0 : Int), ([] : List (Int))) : Option (List (Int))).bind fun r5 =>
 some (Go.Lf.bytesU r5)
theorem ir_Text_eq (a0 : List ((Int) × ((Int) × qT4))) : Go.Lf.fnE ir_TextCtx ir_TextCode ir_TextAnn [.val (.sl (.st qY17))] [.str] [.tmp 2] (a0) = ir_Text a0 := by kernel_rfl
noncomputable def ir_TextEnt : Nat × Go.Lf.Entry := (25, ⟨[.val (.sl (.st qY17))], [.str], fun z => ir_Text z⟩)
theorem ir_Text_ok : Go.Lf.EntryOk Go.Proofs.Tryz.prog GG 25 ir_TextEnt.2 :=
  Go.Lf.fn_ok (c := ir_TextCtx) (code := ir_TextCode) (an := ir_TextAnn) (slots := [.tmp 2]) (fn := Go.Proofs.Tryz.f25) (by kernel_rfl) ⟨Tys_ok, Go.Lf.FnsOk.look .nil, Go.Lf.IpsOk.look .nil⟩ (by kernel_rfl) (by kernel_rfl) (by kernel_rfl) (by kernel_rfl) (by kernel_rfl) (Nat.le_of_ble_eq_true rfl) (by simp [Go.Lf.Ty.top]) (by simp [Go.Lf.Ty.top]) fun z r h => (ir_Text_eq z).trans h
noncomputable def ir_twinCtx : Go.Lf.Ctx := ⟨22, Tys, [], [], [], [(3, (.mr 61 (.st qY17)))], []⟩
noncomputable def ir_twinCode : Go.Code := (Go.Proofs.Tryz.f79.body).getD .skip
def ir_twinAnn : Go.Lf.Ann := (.seq .no (.seq .no (.seq (.seq .no (.loop ⟨[6, 7], [], [(8, (.int .i64)), (3, (.mr 61 (.st qY17)))], [], []⟩ (.one (.ext 0) ⟨[], [], [(3, (.mr 61 (.st qY17)))], [], []⟩) .no)) .no)))
noncomputable def ir_twin (a0 : List ((Int) × ((Int) × qT4))) : Option qT14 :=
 (Go.Lf.loopC (σ := (Int) × qT14) (κ := List ((Int) × ((Int) × qT4))) (fun z1 =>
     bif (decide (z1.1 < (((List.length a0) : Nat) : Int))) then ((Go.Lf.idx a0 z1.1)).bind fun r2 =>
     ((Go.Lf.app (8 : Nat) ([] : List (Int)) r2.2.2.2.1)).bind fun r3 =>
     ((Go.Lf.app (56 : Nat) z1.2 ((r2.1, (r2.2.1, (r2.2.2.1, (r3, r2.2.2.2.2)))) :: ([] : List ((Int) × ((Int) × qT4)))))).bind fun r4 =>
     some (.inl ((Go.IntKind.wrap .i64 (z1.1 + (1 : Int))), r4))
     else some (.inr z1.2)) ((0 : Int), ([] : List ((Int) × ((Int) × qT4)))) : Option qT14).bind fun r5 =>
 some r5
theorem ir_twin_eq (a0 : List ((Int) × ((Int) × qT4))) : Go.Lf.fnE ir_twinCtx ir_twinCode ir_twinAnn [.val (.sl (.st qY17))] [(.mr 61 (.st qY17))] [.tmp 2] (a0) = ir_twin a0 := by kernel_rfl
noncomputable def ir_twinEnt : Nat × Go.Lf.Entry := (79, ⟨[.val (.sl (.st qY17))], [(.mr 61 (.st qY17))], fun z => ir_twin z⟩)
theorem ir_twin_ok : Go.Lf.EntryOk Go.Proofs.Tryz.prog GG 79 ir_twinEnt.2 :=
  Go.Lf.fn_ok (c := ir_twinCtx) (code := ir_twinCode) (an := ir_twinAnn) (slots := [.tmp 2]) (fn := Go.Proofs.Tryz.f79) (by kernel_rfl) ⟨Tys_ok, Go.Lf.FnsOk.look .nil, Go.Lf.IpsOk.look .nil⟩ (by kernel_rfl) (by kernel_rfl) (by kernel_rfl) (by kernel_rfl) (by kernel_rfl) (Nat.le_of_ble_eq_true rfl) (by simp [Go.Lf.Ty.top]) (by simp [Go.Lf.Ty.top]) fun z r h => (ir_twin_eq z).trans h
noncomputable def ir_LinksCtx : Go.Lf.Ctx := ⟨27, Tys, [ir_twinEnt], [2, 3, 21, 26], [], [(2, (.rw 61 (.st qY17))), (3, (.rw 61 (.st qY17))), (21, (.rw 61 (.st qY17))), (26, (.rw 61 (.st qY17)))], []⟩
noncomputable def ir_LinksCode : Go.Code := (Go.Proofs.Tryz.f34.body).getD .skip
def ir_LinksAnn : Go.Lf.Ann := (.seq .no (.seq .no (.seq (.seq .no (.loop ⟨[7, 8], [], [(9, (.int .i64)), (3, (.rw 61 (.st qY17)))], [], []⟩ (.one (.ext 0) ⟨[], [], [(3, (.rw 61 (.st qY17)))], [], []⟩) (.seq .no (.seq .no (.seq (.join (.one .nrm ⟨[7, 8, 9], [], [(3, (.rw 61 (.st qY17)))], [], []⟩) (.seq .no (.seq (.join (.one .nrm ⟨[7, 8, 9], [(5, 5, [], 0)], [(20, .bool), (3, (.rw 61 (.st qY17)))], [(5, 61, (.st qY17))], []⟩) .no) .no))) .no))))) .no)))
noncomputable def ir_Links (a0 : List ((Int) × ((Int) × qT4))) : Option qT14 :=
 ((Go.Fn.ir_twin a0)).bind fun r1 =>
 (Go.Lf.loopC (σ := (Int) × qT14) (κ := List ((Int) × ((Int) × qT4))) (fun z2 =>
     bif (decide (z2.1 < (((List.length r1) : Nat) : Int))) then (((Go.Lf.idx r1 z2.1)).bind fun r3 =>
       (bif (!(decide ((r3.1 : Int) = (3 : Int)))) then some ((decide ((r3.1 : Int) = (4 : Int))), (z2.2, r3))
         else some (true, (z2.2, r3))).bind fun r4 =>
       bif r4.1 then ((Go.Lf.app (56 : Nat) r4.2.1 (r4.2.2 :: ([] : List ((Int) × ((Int) × qT4)))))).bind fun r5 =>
       some r5
       else some r4.2.1).bind fun r6 =>
     some (.inl ((Go.IntKind.wrap .i64 (z2.1 + (1 : Int))), r6))
     else some (.inr z2.2)) ((0 : Int), ([] : List ((Int) × ((Int) × qT4)))) : Option qT14).bind fun r7 =>
 some r7
theorem ir_Links_eq (a0 : List ((Int) × ((Int) × qT4))) : Go.Lf.fnE ir_LinksCtx ir_LinksCode ir_LinksAnn [.val (.sl (.st qY17))] [(.rw 61 (.st qY17))] [.tmp 2] (a0) = ir_Links a0 := by kernel_rfl
noncomputable def ir_LinksEnt : Nat × Go.Lf.Entry := (34, ⟨[.val (.sl (.st qY17))], [(.rw 61 (.st qY17))], fun z => ir_Links z⟩)
theorem ir_Links_ok : Go.Lf.EntryOk Go.Proofs.Tryz.prog GG 34 ir_LinksEnt.2 :=
  Go.Lf.fn_ok (c := ir_LinksCtx) (code := ir_LinksCode) (an := ir_LinksAnn) (slots := [.tmp 2]) (fn := Go.Proofs.Tryz.f34) (by kernel_rfl) ⟨Tys_ok, Go.Lf.FnsOk.look (.con ir_twin_ok .nil), Go.Lf.IpsOk.look .nil⟩ (by kernel_rfl) (by kernel_rfl) (by kernel_rfl) (by kernel_rfl) (by kernel_rfl) (Nat.le_of_ble_eq_true rfl) (by simp [Go.Lf.Ty.top]) (by simp [Go.Lf.Ty.top]) fun z r h => (ir_Links_eq z).trans h
noncomputable def foliolaw11_awakeCtx : Go.Lf.Ctx := ⟨101, Tys, [ir_SheetEnt, ir_LowerEnt, ir_CheckEnt, ir_TextEnt, ir_LinksEnt], [], [], [], []⟩
noncomputable def foliolaw11_awakeCode : Go.Code := (Go.Proofs.Tryz.f8.body).getD .skip
def foliolaw11_awakeAnn : Go.Lf.Ann := (.seq .no (.seq .no (.seq .no (.seq (.seq (.join (.one .nrm ⟨[3], [], [(64, .bool)], [], []⟩) .no) .no) (.seq .no (.seq .no (.seq (.join (.one .nrm ⟨[], [], [(0, .bool)], [], []⟩) .no) .no)))))))
noncomputable def foliolaw11_awake  : Option (Bool) :=
 ((Go.Fn.ir_Sheet ([] : List (qT3 × ((List qT54) × (Unit)))))).bind fun r1 =>
 ((Go.Fn.ir_Lower r1.1 ((((72 : UInt8) :: ((111 : UInt8) :: ((109 : UInt8) :: ((101 : UInt8) :: ([] : List (UInt8)))))), (((104 : UInt8) :: ((111 : UInt8) :: ((109 : UInt8) :: ((101 : UInt8) :: ([] : List (UInt8)))))), ((0 : Int), ((0 : Int), ((0 : Int), ((0 : Int), ())))))) :: ([] : List qT19)) ((0 : Int), (([] : List (UInt8)), (([] : List (UInt8)), ((0 : Int), (([] : List qT9), (([] : List qT9), ((((1 : Int), ((0 : Int), (([] : List (UInt8)), (([] : List (Int)), ((((1 : Int), (((97 : UInt8) :: ((32 : UInt8) :: ([] : List (UInt8)))), (([] : List (UInt8)), ((0 : Int), ((0 : Int), ()))))) :: (((3 : Int), (([] : List (UInt8)), (((72 : UInt8) :: ((79 : UInt8) :: ((77 : UInt8) :: ((69 : UInt8) :: ([] : List (UInt8)))))), ((0 : Int), ((0 : Int), ()))))) :: (((1 : Int), (((103 : UInt8) :: ((111 : UInt8) :: ([] : List (UInt8)))), (([] : List (UInt8)), ((0 : Int), ((0 : Int), ()))))) :: (((5 : Int), (([] : List (UInt8)), (([] : List (UInt8)), ((0 : Int), ((0 : Int), ()))))) :: ([] : List qT16))))), ((0 : Int), ())))))) :: ([] : List qT39)), ((0 : Int), ())))))))) (0 : Int))).bind fun r2 =>
 (bif (!(Option.isSome r1.2)) then bif (!(Option.isSome r2.2)) then bif (!(decide (((((List.length r1.1) : Nat) : Int) : Int) ≠ (6 : Int)))) then bif (!(decide (((((List.length r2.1) : Nat) : Int) : Int) ≠ (6 : Int)))) then ((Go.Lf.idx r2.1 (0 : Int))).bind fun r3 =>
   bif (!(decide ((r3.1 : Int) ≠ (8 : Int)))) then ((Go.Lf.idx r2.1 (0 : Int))).bind fun r4 =>
   bif (!(decide ((r4.2.1 : Int) ≠ (-(1 : Int))))) then ((Go.Lf.idx r2.1 (2 : Int))).bind fun r5 =>
   some (decide ((r5.1 : Int) ≠ (3 : Int)))
   else some true
   else some true
   else some true
   else some true
   else some true
   else some true).bind fun r6 =>
 bif r6 then some false
 else ((Go.Fn.ir_Check r2.1 (6 : Int) (1 : Int))).bind fun r7 =>
 ((Go.Fn.ir_Check (((9 : Int), ((0 : Int), (([] : List (UInt8)), (([] : List (Int)), ())))) :: ([] : List ((Int) × ((Int) × qT4)))) (0 : Int) (0 : Int))).bind fun r8 =>
 (bif (decide ((r7.1 : Int) = (0 : Int))) then bif (decide ((r7.2 : Int) = (0 : Int))) then bif (decide ((r8.1 : Int) = (0 : Int))) then bif (decide ((r8.2 : Int) = (110 : Int))) then ((Go.Fn.ir_Text r2.1)).bind fun r9 =>
   bif (decide ((r9 : List (UInt8)) = ((97 : UInt8) :: ((32 : UInt8) :: ((103 : UInt8) :: ((111 : UInt8) :: ([] : List (UInt8)))))))) then ((Go.Fn.ir_Links r2.1)).bind fun r10 =>
   some (decide (((((List.length r10) : Nat) : Int) : Int) = (1 : Int)))
   else some false
   else some false
   else some false
   else some false
   else some false).bind fun r11 =>
 some r11
theorem foliolaw11_awake_eq  : Go.Lf.fnE foliolaw11_awakeCtx foliolaw11_awakeCode foliolaw11_awakeAnn [] [.bool] [.tmp 0] () = foliolaw11_awake  := by kernel_rfl
noncomputable def foliolaw11_awakeEnt : Nat × Go.Lf.Entry := (8, ⟨[], [.bool], fun _ => foliolaw11_awake ⟩)
theorem foliolaw11_awake_ok : Go.Lf.EntryOk Go.Proofs.Tryz.prog GG 8 foliolaw11_awakeEnt.2 :=
  Go.Lf.fn_ok (c := foliolaw11_awakeCtx) (code := foliolaw11_awakeCode) (an := foliolaw11_awakeAnn) (slots := [.tmp 0]) (fn := Go.Proofs.Tryz.f8) (by kernel_rfl) ⟨Tys_ok, Go.Lf.FnsOk.look (.con ir_Sheet_ok (.con ir_Lower_ok (.con ir_Check_ok (.con ir_Text_ok (.con ir_Links_ok .nil))))), Go.Lf.IpsOk.look .nil⟩ (by kernel_rfl) (by kernel_rfl) (by kernel_rfl) (by kernel_rfl) (by kernel_rfl) (Nat.le_of_ble_eq_true rfl) (by simp [Go.Lf.Ty.top]) (by simp [Go.Lf.Ty.top]) fun z r h => (foliolaw11_awake_eq ).trans h
noncomputable def folioref06_BaseCtx : Go.Lf.Ctx := ⟨14, Tys, [], [0], [], [(0, qY32)], []⟩
noncomputable def folioref06_BaseCode : Go.Code := (Go.Proofs.Tryz.f10.body).getD .skip
def folioref06_BaseAnn : Go.Lf.Ann := .no
noncomputable def folioref06_Base  : Option (List qT20) :=
 some ((((98 : UInt8) :: ([] : List (UInt8))), (([] : List (UInt8)), (((1 : Int), ((0 : Int), ((-(1 : Int)), ()))), ()))) :: ((((105 : UInt8) :: ([] : List (UInt8))), (([] : List (UInt8)), (((2 : Int), ((0 : Int), ((-(1 : Int)), ()))), ()))) :: ((((117 : UInt8) :: ([] : List (UInt8))), (([] : List (UInt8)), (((4 : Int), ((0 : Int), ((-(1 : Int)), ()))), ()))) :: ((((115 : UInt8) :: ([] : List (UInt8))), (([] : List (UInt8)), (((8 : Int), ((0 : Int), ((-(1 : Int)), ()))), ()))) :: ((((109 : UInt8) :: ([] : List (UInt8))), (([] : List (UInt8)), (((16 : Int), ((0 : Int), ((-(1 : Int)), ()))), ()))) :: ((((104 : UInt8) :: ([] : List (UInt8))), (([] : List (UInt8)), (((5 : Int), ((0 : Int), ((-(1 : Int)), ()))), ()))) :: ([] : List qT20)))))))
theorem folioref06_Base_eq  : Go.Lf.fnE folioref06_BaseCtx folioref06_BaseCode folioref06_BaseAnn [] [qY32] [.tmp 0] () = folioref06_Base  := by kernel_rfl
noncomputable def folioref06_BaseEnt : Nat × Go.Lf.Entry := (10, ⟨[], [qY32], fun _ => folioref06_Base ⟩)
theorem folioref06_Base_ok : Go.Lf.EntryOk Go.Proofs.Tryz.prog GG 10 folioref06_BaseEnt.2 :=
  Go.Lf.fn_ok (c := folioref06_BaseCtx) (code := folioref06_BaseCode) (an := folioref06_BaseAnn) (slots := [.tmp 0]) (fn := Go.Proofs.Tryz.f10) (by kernel_rfl) ⟨Tys_ok, Go.Lf.FnsOk.look .nil, Go.Lf.IpsOk.look .nil⟩ (by kernel_rfl) (by kernel_rfl) (by kernel_rfl) (by kernel_rfl) (by kernel_rfl) (Nat.le_of_ble_eq_true rfl) (by simp [Go.Lf.Ty.top]) (by simp [Go.Lf.Ty.top]) fun z r h => (folioref06_Base_eq ).trans h
noncomputable def folioref06_wordsCtx : Go.Lf.Ctx := ⟨35, Tys, [], [2, 3, 25, 34], [], [(2, (.rw 9 .str)), (3, (.rw 9 .str)), (25, (.rw 9 .str)), (34, (.rw 9 .str))], []⟩
noncomputable def folioref06_wordsCode : Go.Code := (Go.Proofs.Tryz.f47.body).getD .skip
def folioref06_wordsAnn : Go.Lf.Ann := (.seq .no (.seq .no (.seq .no (.seq (.seq .no (.loop ⟨[0], [], [(5, (.int .i64)), (4, (.int .i64)), (3, (.rw 9 .str))], [], []⟩ (.one (.ext 0) ⟨[], [], [(3, (.rw 9 .str))], [], []⟩) (.seq .no (.seq (.join (.one .nrm ⟨[0, 5], [], [(4, (.int .i64)), (3, (.rw 9 .str))], [], []⟩) (.seq (.seq (.join (.one .nrm ⟨[4, 0, 5], [], [(21, .bool), (3, (.rw 9 .str))], [], []⟩) .no) .no) (.seq (.join (.one .nrm ⟨[0, 5], [], [(3, (.rw 9 .str))], [], []⟩) .no) .no))) .no)))) .no))))
noncomputable def folioref06_words (a0 : List (UInt8)) : Option (List (List (UInt8))) :=
 (Go.Lf.loopC (σ := (Int) × ((Int) × (List (List (UInt8))))) (κ := List (List (UInt8))) (fun z1 =>
     bif (decide (z1.1 ≤ (((List.length a0) : Nat) : Int))) then ((bif (decide (z1.1 < (((List.length a0) : Nat) : Int))) then ((Go.Lf.idx a0 z1.1)).bind fun r2 =>
         some ((decide (((((UInt8.toNat r2) : Nat) : Int) : Int) ≠ (32 : Int))), z1.2.2)
         else some (false, z1.2.2)).bind fun r3 =>
       bif r3.1 then some (z1.2.1, r3.2)
       else (bif (decide (z1.2.1 < z1.1)) then ((Go.Lf.sub a0 z1.2.1 z1.1)).bind fun r4 =>
         ((Go.Lf.app (16 : Nat) r3.2 (r4 :: ([] : List (List (UInt8)))))).bind fun r5 =>
         some r5
         else some r3.2).bind fun r6 =>
       some ((Go.IntKind.wrap .i64 (z1.1 + (1 : Int))), r6)).bind fun r7 =>
     some (.inl ((Go.IntKind.wrap .i64 (z1.1 + (1 : Int))), (r7.1, r7.2)))
     else some (.inr z1.2.2)) ((0 : Int), ((0 : Int), ([] : List (List (UInt8))))) : Option (List (List (UInt8)))).bind fun r8 =>
 some r8
theorem folioref06_words_eq (a0 : List (UInt8)) : Go.Lf.fnE folioref06_wordsCtx folioref06_wordsCode folioref06_wordsAnn [.val .str] [(.rw 9 .str)] [.tmp 2] (a0) = folioref06_words a0 := by kernel_rfl
noncomputable def folioref06_wordsEnt : Nat × Go.Lf.Entry := (47, ⟨[.val .str], [(.rw 9 .str)], fun z => folioref06_words z⟩)
theorem folioref06_words_ok : Go.Lf.EntryOk Go.Proofs.Tryz.prog GG 47 folioref06_wordsEnt.2 :=
  Go.Lf.fn_ok (c := folioref06_wordsCtx) (code := folioref06_wordsCode) (an := folioref06_wordsAnn) (slots := [.tmp 2]) (fn := Go.Proofs.Tryz.f47) (by kernel_rfl) ⟨Tys_ok, Go.Lf.FnsOk.look .nil, Go.Lf.IpsOk.look .nil⟩ (by kernel_rfl) (by kernel_rfl) (by kernel_rfl) (by kernel_rfl) (by kernel_rfl) (Nat.le_of_ble_eq_true rfl) (by simp [Go.Lf.Ty.top]) (by simp [Go.Lf.Ty.top]) fun z r h => (folioref06_words_eq z).trans h
noncomputable def folioref06_NoneCtx : Go.Lf.Ctx := ⟨2, Tys, [], [], [], [], []⟩
noncomputable def folioref06_NoneCode : Go.Code := (Go.Proofs.Tryz.f48.body).getD .skip
def folioref06_NoneAnn : Go.Lf.Ann := .no
noncomputable def folioref06_None  : Option ((Int) × ((Int) × ((Int) × (Unit)))) :=
 some ((0 : Int), ((0 : Int), ((-(1 : Int)), ())))
theorem folioref06_None_eq  : Go.Lf.fnE folioref06_NoneCtx folioref06_NoneCode folioref06_NoneAnn [] [qY11] [.cell 0 37] () = folioref06_None  := by kernel_rfl
noncomputable def folioref06_NoneEnt : Nat × Go.Lf.Entry := (48, ⟨[], [qY11], fun _ => folioref06_None ⟩)
theorem folioref06_None_ok : Go.Lf.EntryOk Go.Proofs.Tryz.prog GG 48 folioref06_NoneEnt.2 :=
  Go.Lf.fn_ok (c := folioref06_NoneCtx) (code := folioref06_NoneCode) (an := folioref06_NoneAnn) (slots := [.cell 0 37]) (fn := Go.Proofs.Tryz.f48) (by kernel_rfl) ⟨Tys_ok, Go.Lf.FnsOk.look .nil, Go.Lf.IpsOk.look .nil⟩ (by kernel_rfl) (by kernel_rfl) (by kernel_rfl) (by kernel_rfl) (by kernel_rfl) (Nat.le_of_ble_eq_true rfl) (by simp [Go.Lf.Ty.top]) (by simp [Go.Lf.Ty.top]) fun z r h => (folioref06_None_eq ).trans h
noncomputable def folioref06_NameCtx : Go.Lf.Ctx := ⟨28, Tys, [], [], [], [], []⟩
noncomputable def folioref06_NameCode : Go.Code := (Go.Proofs.Tryz.f87.body).getD .skip
def folioref06_NameAnn : Go.Lf.Ann := (.seq .no (.seq (.seq .no (.loop ⟨[0], [], [(3, (.int .i64))], [], []⟩ (.more (.ext 0) ⟨[0], [], [], [], []⟩ (.one .ret ⟨[], [], [(2, .bool)], [], []⟩)) (.seq .no (.seq (.seq (.join (.one .nrm ⟨[0, 3], [], [(19, .bool)], [], []⟩) .no) .no) .no)))) (.seq (.join (.one .nrm ⟨[], [], [(2, .bool)], [], []⟩) .no) .no)))
noncomputable def folioref06_Name (a0 : List (UInt8)) : Option (Bool) :=
 (Go.Lf.loopC (σ := Int) (κ := (Unit) ⊕ (Bool)) (fun z1 =>
     bif (decide (z1 < (((List.length a0) : Nat) : Int))) then (((Go.Lf.idx a0 z1)).bind fun r2 =>
       bif (!(decide ((((UInt8.toNat r2) : Nat) : Int) < (97 : Int)))) then ((Go.Lf.idx a0 z1)).bind fun r3 =>
       some (decide ((122 : Int) < (((UInt8.toNat r3) : Nat) : Int)))
       else some true).bind fun r4 =>
     bif r4 then some (.inr (.inr false))
     else some (.inl (Go.IntKind.wrap .i64 (z1 + (1 : Int))))
     else some (.inr (.inl ()))) (0 : Int) : Option ((Unit) ⊕ (Bool))).bind fun r5 =>
 Go.Lf.onSum r5 (fun a6 =>
 (bif (decide ((1 : Int) ≤ (((List.length a0) : Nat) : Int))) then some (decide ((((List.length a0) : Nat) : Int) ≤ (12 : Int)))
   else some false).bind fun r7 =>
 some r7) (fun b8 =>
 some b8)
theorem folioref06_Name_eq (a0 : List (UInt8)) : Go.Lf.fnE folioref06_NameCtx folioref06_NameCode folioref06_NameAnn [.val .str] [.bool] [.tmp 2] (a0) = folioref06_Name a0 := by kernel_rfl
noncomputable def folioref06_NameEnt : Nat × Go.Lf.Entry := (87, ⟨[.val .str], [.bool], fun z => folioref06_Name z⟩)
theorem folioref06_Name_ok : Go.Lf.EntryOk Go.Proofs.Tryz.prog GG 87 folioref06_NameEnt.2 :=
  Go.Lf.fn_ok (c := folioref06_NameCtx) (code := folioref06_NameCode) (an := folioref06_NameAnn) (slots := [.tmp 2]) (fn := Go.Proofs.Tryz.f87) (by kernel_rfl) ⟨Tys_ok, Go.Lf.FnsOk.look .nil, Go.Lf.IpsOk.look .nil⟩ (by kernel_rfl) (by kernel_rfl) (by kernel_rfl) (by kernel_rfl) (by kernel_rfl) (Nat.le_of_ble_eq_true rfl) (by simp [Go.Lf.Ty.top]) (by simp [Go.Lf.Ty.top]) fun z r h => (folioref06_Name_eq z).trans h
noncomputable def folioref06_namesCtx : Go.Lf.Ctx := ⟨37, Tys, [folioref06_NameEnt], [], [], [], []⟩
noncomputable def folioref06_namesCode : Go.Code := (Go.Proofs.Tryz.f49.body).getD .skip
def folioref06_namesAnn : Go.Lf.Ann := (.seq .no (.seq (.seq .no (.loop ⟨[0], [], [(5, (.int .i64))], [], []⟩ (.more (.ext 0) ⟨[0], [], [], [], []⟩ (.one .ret ⟨[], [], [(2, .str), (3, .str), (4, .bool)], [], []⟩)) (.seq .no (.seq (.seq .no (.cnd (.seq (.join (.one .nrm ⟨[], [], [(2, .str), (3, .str), (4, .bool)], [], []⟩) (.draw 21)) .no) .no)) .no)))) .no))
noncomputable def folioref06_names (a0 : List (UInt8)) : Option ((List (UInt8)) × ((List (UInt8)) × (Bool))) :=
 (Go.Lf.loopC (σ := Int) (κ := (Unit) ⊕ ((List (UInt8)) × ((List (UInt8)) × (Bool)))) (fun z1 =>
     bif (decide (z1 < (((List.length a0) : Nat) : Int))) then ((Go.Lf.idx a0 z1)).bind fun r2 =>
     bif (decide (((((UInt8.toNat r2) : Nat) : Int) : Int) = (58 : Int))) then (((Go.Lf.sub a0 (0 : Int) z1)).bind fun r3 =>
       ((Go.Lf.sub a0 (Go.IntKind.wrap .i64 (z1 + (1 : Int))) (((List.length a0) : Nat) : Int))).bind fun r4 =>
       ((Go.Lf.sub a0 (0 : Int) z1)).bind fun r5 =>
       ((Go.Fn.folioref06_Name r5)).bind fun r6 =>
       bif r6 then ((Go.Lf.sub a0 (Go.IntKind.wrap .i64 (z1 + (1 : Int))) (((List.length a0) : Nat) : Int))).bind fun r7 =>
       ((Go.Fn.folioref06_Name r7)).bind fun r8 =>
       some (r3, (r4, r8))
       else some (r3, (r4, false))).bind fun r9 =>
     some (.inr (.inr (r9.1, (r9.2.1, r9.2.2))))
     else some (.inl (Go.IntKind.wrap .i64 (z1 + (1 : Int))))
     else some (.inr (.inl ()))) (0 : Int) : Option ((Unit) ⊕ ((List (UInt8)) × ((List (UInt8)) × (Bool))))).bind fun r10 =>
 Go.Lf.onSum r10 (fun a11 =>
 ((Go.Fn.folioref06_Name a0)).bind fun r12 =>
 some (a0, (([] : List (UInt8)), r12))) (fun b13 =>
 some (b13.1, (b13.2.1, b13.2.2)))
theorem folioref06_names_eq (a0 : List (UInt8)) : Go.Lf.fnE folioref06_namesCtx folioref06_namesCode folioref06_namesAnn [.val .str] [.str, .str, .bool] [.tmp 2, .tmp 3, .tmp 4] (a0) = folioref06_names a0 := by kernel_rfl
noncomputable def folioref06_namesEnt : Nat × Go.Lf.Entry := (49, ⟨[.val .str], [.str, .str, .bool], fun z => folioref06_names z⟩)
theorem folioref06_names_ok : Go.Lf.EntryOk Go.Proofs.Tryz.prog GG 49 folioref06_namesEnt.2 :=
  Go.Lf.fn_ok (c := folioref06_namesCtx) (code := folioref06_namesCode) (an := folioref06_namesAnn) (slots := [.tmp 2, .tmp 3, .tmp 4]) (fn := Go.Proofs.Tryz.f49) (by kernel_rfl) ⟨Tys_ok, Go.Lf.FnsOk.look (.con folioref06_Name_ok .nil), Go.Lf.IpsOk.look .nil⟩ (by kernel_rfl) (by kernel_rfl) (by kernel_rfl) (by kernel_rfl) (by kernel_rfl) (Nat.le_of_ble_eq_true rfl) (by simp [Go.Lf.Ty.top]) (by simp [Go.Lf.Ty.top]) fun z r h => (folioref06_names_eq z).trans h
noncomputable def folioref06_colorCtx : Go.Lf.Ctx := ⟨14, Tys, [strconv_ItoaEnt], [], [], [], []⟩
noncomputable def folioref06_colorCode : Go.Code := (Go.Proofs.Tryz.f50.body).getD .skip
def folioref06_colorAnn : Go.Lf.Ann := (.seq .no (.seq (.seq .no (.loop ⟨[0], [], [(4, (.int .i64))], [], []⟩ (.more (.ext 0) ⟨[], [], [], [], []⟩ (.one .ret ⟨[], [], [(2, (.int .i64)), (3, .bool)], [], []⟩)) .no)) .no))
noncomputable def folioref06_color (a0 : List (UInt8)) : Option ((Int) × (Bool)) :=
 (Go.Lf.loopC (σ := Int) (κ := (Unit) ⊕ ((Int) × (Bool))) (fun z1 =>
     bif (decide (z1 ≤ (15 : Int))) then ((Go.Fn.strconv_Itoa z1)).bind fun r2 =>
     bif (decide ((r2 : List (UInt8)) = a0)) then some (.inr (.inr (z1, true)))
     else some (.inl (Go.IntKind.wrap .i64 (z1 + (1 : Int))))
     else some (.inr (.inl ()))) (0 : Int) : Option ((Unit) ⊕ ((Int) × (Bool)))).bind fun r3 =>
 Go.Lf.onSum r3 (fun a4 =>
 some ((0 : Int), false)) (fun b5 =>
 some (b5.1, b5.2))
theorem folioref06_color_eq (a0 : List (UInt8)) : Go.Lf.fnE folioref06_colorCtx folioref06_colorCode folioref06_colorAnn [.val .str] [(.int .i64), .bool] [.tmp 2, .tmp 3] (a0) = folioref06_color a0 := by kernel_rfl
noncomputable def folioref06_colorEnt : Nat × Go.Lf.Entry := (50, ⟨[.val .str], [(.int .i64), .bool], fun z => folioref06_color z⟩)
theorem folioref06_color_ok : Go.Lf.EntryOk Go.Proofs.Tryz.prog GG 50 folioref06_colorEnt.2 :=
  Go.Lf.fn_ok (c := folioref06_colorCtx) (code := folioref06_colorCode) (an := folioref06_colorAnn) (slots := [.tmp 2, .tmp 3]) (fn := Go.Proofs.Tryz.f50) (by kernel_rfl) ⟨Tys_ok, Go.Lf.FnsOk.look (.con strconv_Itoa_ok .nil), Go.Lf.IpsOk.look .nil⟩ (by kernel_rfl) (by kernel_rfl) (by kernel_rfl) (by kernel_rfl) (by kernel_rfl) (Nat.le_of_ble_eq_true rfl) (by simp [Go.Lf.Ty.top]) (by simp [Go.Lf.Ty.top]) fun z r h => (folioref06_color_eq z).trans h
noncomputable def folioref06_WordsCtx : Go.Lf.Ctx := ⟨2, Tys, [], [0], [], [(0, (.rw 9 .str))], []⟩
noncomputable def folioref06_WordsCode : Go.Code := (Go.Proofs.Tryz.f89.body).getD .skip
def folioref06_WordsAnn : Go.Lf.Ann := .no
noncomputable def folioref06_Words  : Option (List (List (UInt8))) :=
 some (((98 : UInt8) :: ((111 : UInt8) :: ((108 : UInt8) :: ((100 : UInt8) :: ([] : List (UInt8)))))) :: (((105 : UInt8) :: ((116 : UInt8) :: ((97 : UInt8) :: ((108 : UInt8) :: ((105 : UInt8) :: ((99 : UInt8) :: ([] : List (UInt8)))))))) :: (((117 : UInt8) :: ((110 : UInt8) :: ((100 : UInt8) :: ((101 : UInt8) :: ((114 : UInt8) :: ([] : List (UInt8))))))) :: (((115 : UInt8) :: ((116 : UInt8) :: ((114 : UInt8) :: ((105 : UInt8) :: ((107 : UInt8) :: ((101 : UInt8) :: ([] : List (UInt8)))))))) :: (((109 : UInt8) :: ((111 : UInt8) :: ((110 : UInt8) :: ((111 : UInt8) :: ([] : List (UInt8)))))) :: (((115 : UInt8) :: ((109 : UInt8) :: ((97 : UInt8) :: ((108 : UInt8) :: ((108 : UInt8) :: ([] : List (UInt8))))))) :: (((114 : UInt8) :: ((101 : UInt8) :: ((118 : UInt8) :: ((101 : UInt8) :: ((114 : UInt8) :: ((115 : UInt8) :: ((101 : UInt8) :: ([] : List (UInt8))))))))) :: ([] : List (List (UInt8))))))))))
theorem folioref06_Words_eq  : Go.Lf.fnE folioref06_WordsCtx folioref06_WordsCode folioref06_WordsAnn [] [(.rw 9 .str)] [.tmp 0] () = folioref06_Words  := by kernel_rfl
noncomputable def folioref06_WordsEnt : Nat × Go.Lf.Entry := (89, ⟨[], [(.rw 9 .str)], fun _ => folioref06_Words ⟩)
theorem folioref06_Words_ok : Go.Lf.EntryOk Go.Proofs.Tryz.prog GG 89 folioref06_WordsEnt.2 :=
  Go.Lf.fn_ok (c := folioref06_WordsCtx) (code := folioref06_WordsCode) (an := folioref06_WordsAnn) (slots := [.tmp 0]) (fn := Go.Proofs.Tryz.f89) (by kernel_rfl) ⟨Tys_ok, Go.Lf.FnsOk.look .nil, Go.Lf.IpsOk.look .nil⟩ (by kernel_rfl) (by kernel_rfl) (by kernel_rfl) (by kernel_rfl) (by kernel_rfl) (Nat.le_of_ble_eq_true rfl) (by simp [Go.Lf.Ty.top]) (by simp [Go.Lf.Ty.top]) fun z r h => (folioref06_Words_eq ).trans h
noncomputable def folioref06_bitCtx : Go.Lf.Ctx := ⟨21, Tys, [folioref06_WordsEnt], [], [], [], []⟩
noncomputable def folioref06_bitCode : Go.Code := (Go.Proofs.Tryz.f51.body).getD .skip
def folioref06_bitAnn : Go.Lf.Ann := (.seq .no (.seq .no (.seq (.seq .no (.loop ⟨[0, 3], [], [(4, (.int .i64))], [], []⟩ (.more (.ext 0) ⟨[], [], [], [], []⟩ (.one .ret ⟨[], [], [(2, (.int .i64))], [], []⟩)) .no)) .no)))
noncomputable def folioref06_bit (a0 : List (UInt8)) : Option (Int) :=
 (Go.Fn.folioref06_Words).bind fun r1 =>
 (Go.Lf.loopC (σ := Int) (κ := (Unit) ⊕ (Int)) (fun z2 =>
     bif (decide (z2 < (((List.length r1) : Nat) : Int))) then ((Go.Lf.idx r1 z2)).bind fun r3 =>
     bif (decide ((r3 : List (UInt8)) = a0)) then ((Go.Lf.nn (Go.IntKind.wrap .u64 z2) (Go.IntKind.wrap .i64 ((1 : Int) * ((2 : Int) ^ (Min.min (Int.toNat (Go.IntKind.wrap .u64 z2)) (64 : Nat))))))).bind fun r4 =>
     some (.inr (.inr r4))
     else some (.inl (Go.IntKind.wrap .i64 (z2 + (1 : Int))))
     else some (.inr (.inl ()))) (0 : Int) : Option ((Unit) ⊕ (Int))).bind fun r5 =>
 Go.Lf.onSum r5 (fun a6 =>
 some (0 : Int)) (fun b7 =>
 some b7)
theorem folioref06_bit_eq (a0 : List (UInt8)) : Go.Lf.fnE folioref06_bitCtx folioref06_bitCode folioref06_bitAnn [.val .str] [(.int .i64)] [.tmp 2] (a0) = folioref06_bit a0 := by kernel_rfl
noncomputable def folioref06_bitEnt : Nat × Go.Lf.Entry := (51, ⟨[.val .str], [(.int .i64)], fun z => folioref06_bit z⟩)
theorem folioref06_bit_ok : Go.Lf.EntryOk Go.Proofs.Tryz.prog GG 51 folioref06_bitEnt.2 :=
  Go.Lf.fn_ok (c := folioref06_bitCtx) (code := folioref06_bitCode) (an := folioref06_bitAnn) (slots := [.tmp 2]) (fn := Go.Proofs.Tryz.f51) (by kernel_rfl) ⟨Tys_ok, Go.Lf.FnsOk.look (.con folioref06_Words_ok .nil), Go.Lf.IpsOk.look .nil⟩ (by kernel_rfl) (by kernel_rfl) (by kernel_rfl) (by kernel_rfl) (by kernel_rfl) (Nat.le_of_ble_eq_true rfl) (by simp [Go.Lf.Ty.top]) (by simp [Go.Lf.Ty.top]) fun z r h => (folioref06_bit_eq z).trans h
noncomputable def folioref06_ParseCtx : Go.Lf.Ctx := ⟨136, Tys, [folioref06_wordsEnt, folioref06_NoneEnt, folioref06_namesEnt, folioref06_colorEnt, folioref06_bitEnt], [], [], [], []⟩
noncomputable def folioref06_ParseCode : Go.Code := (Go.Proofs.Tryz.f11.body).getD .skip
def folioref06_ParseAnn : Go.Lf.Ann := (.seq .no (.seq .no (.seq .no (.seq .no (.seq .no (.seq .no (.seq .no (.seq (.seq .no (.loop ⟨[4], [(5, 5, [], 0), (2, 2, [], 0)], [(9, (.int .i64)), (8, .bool)], [(5, 39, (.st (.pr .str qY22))), (2, 39, (.st (.pr .str qY22)))], []⟩ (.one (.ext 0) ⟨[], [(2, 2, [], 0), (5, 5, [], 0)], [(8, .bool)], [(2, 39, (.st (.pr .str qY22))), (5, 39, (.st (.pr .str qY22)))], []⟩) (.seq (.seq (.join (.one .nrm ⟨[4, 9, 8], [(5, 5, [], 0), (2, 2, [], 0)], [(42, .bool)], [(5, 39, (.st (.pr .str qY22))), (2, 39, (.st (.pr .str qY22)))], []⟩) .no) .no) (.seq (.join (.one .nrm ⟨[4], [(5, 5, [], 0), (2, 2, [], 0)], [(8, .bool), (9, (.int .i64))], [(5, 39, (.st (.pr .str qY22))), (2, 39, (.st (.pr .str qY22)))], []⟩) (.seq .no (.cnd (.seq .no (.seq (.join (.one .nrm ⟨[4, 9, 10], [(5, 5, [], 0), (2, 2, [], 0)], [(8, .bool)], [(5, 39, (.st (.pr .str qY22))), (2, 39, (.st (.pr .str qY22)))], []⟩) .no) (.seq (.join (.one .nrm ⟨[4, 9], [(5, 5, [], 0), (2, 2, [], 0)], [(8, .bool), (10, (.int .i64))], [(5, 39, (.st (.pr .str qY22))), (2, 39, (.st (.pr .str qY22)))], []⟩) .no) .no))) (.seq (.join (.one .nrm ⟨[4, 9], [(5, 5, [], 0), (2, 2, [], 0)], [(77, .bool)], [(5, 39, (.st (.pr .str qY22))), (2, 39, (.st (.pr .str qY22)))], []⟩) .no) (.cnd (.seq .no (.seq (.join (.one .nrm ⟨[4, 9, 11], [(5, 5, [], 0), (2, 2, [], 0)], [(8, .bool)], [(5, 39, (.st (.pr .str qY22))), (2, 39, (.st (.pr .str qY22)))], []⟩) .no) .no)) .no))))) .no)))) .no))))))))
noncomputable def folioref06_Parse (a0 : List (UInt8)) : Option (qT20 × (Int)) :=
 bif (decide ((4096 : Int) < (((List.length a0) : Nat) : Int))) then some ((([] : List (UInt8)), (([] : List (UInt8)), (((0 : Int), ((0 : Int), ((0 : Int), ()))), ()))), (2 : Int))
 else ((Go.Fn.folioref06_words a0)).bind fun r1 =>
 bif (decide (((((List.length r1) : Nat) : Int) : Int) = (0 : Int))) then some ((([] : List (UInt8)), (([] : List (UInt8)), (((0 : Int), ((0 : Int), ((0 : Int), ()))), ()))), (67 : Int))
 else (Go.Fn.folioref06_None).bind fun r2 =>
 ((Go.Lf.idx r1 (0 : Int))).bind fun r3 =>
 ((Go.Fn.folioref06_names r3)).bind fun r4 =>
 (Go.Lf.loopC (σ := (Int) × ((Bool) × (qT20 × qT20))) (κ := (Bool) × (qT20 × qT20)) (fun z5 =>
     (bif (decide (z5.1 < (((List.length r1) : Nat) : Int))) then some (z5.2.1, (z5.2.2.1, z5.2.2.2))
       else some (false, (z5.2.2.1, z5.2.2.2))).bind fun r6 =>
     bif r6.1 then (((Go.Lf.idx r1 z5.1)).bind fun r7 =>
       bif (decide ((r7 : List (UInt8)) = ((99 : UInt8) :: ((111 : UInt8) :: ((108 : UInt8) :: ((111 : UInt8) :: ((114 : UInt8) :: ([] : List (UInt8))))))))) then (bif (decide ((r6.2.1.2.2.1.2.2.1 : Int) = (-(1 : Int)))) then some ((decide ((Go.IntKind.wrap .i64 (z5.1 + (1 : Int))) < (((List.length r1) : Nat) : Int))), (r6.2.1, r6.2.2))
         else some (false, (r6.2.1, r6.2.2))).bind fun r8 =>
       (bif r8.1 then ((Go.Lf.idx r1 (Go.IntKind.wrap .i64 (z5.1 + (1 : Int))))).bind fun r9 =>
         ((Go.Fn.folioref06_color r9)).bind fun r10 =>
         some (r10.2, (r10.1, (r8.2.1, r8.2.2)))
         else some (r8.1, ((0 : Int), (r8.2.1, r8.2.2)))).bind fun r11 =>
       some (r11.1, ((Go.IntKind.wrap .i64 (z5.1 + (1 : Int))), ((r11.2.2.1.1, (r11.2.2.1.2.1, ((r11.2.2.1.2.2.1.1, (r11.2.2.1.2.2.1.2.1, (r11.2.1, r11.2.2.1.2.2.1.2.2.2))), r11.2.2.1.2.2.2))), r11.2.2.2)))
       else (((Go.Lf.idx r1 z5.1)).bind fun r12 =>
         ((Go.Lf.idx r12 (0 : Int))).bind fun r13 =>
         bif (!(decide (((((UInt8.toNat r13) : Nat) : Int) : Int) = (43 : Int)))) then ((Go.Lf.idx r1 z5.1)).bind fun r14 =>
         ((Go.Lf.idx r14 (0 : Int))).bind fun r15 =>
         some ((decide (((((UInt8.toNat r15) : Nat) : Int) : Int) = (45 : Int))), (r6.2.1, r6.2.2))
         else some (true, (r6.2.1, r6.2.2))).bind fun r16 =>
       bif r16.1 then ((Go.Lf.idx r1 z5.1)).bind fun r17 =>
       ((Go.Lf.sub r17 (1 : Int) (((List.length r17) : Nat) : Int))).bind fun r18 =>
       ((Go.Fn.folioref06_bit r18)).bind fun r19 =>
       (bif (decide ((r19 : Int) ≠ (0 : Int))) then some ((decide (((Go.Lf.bits .and .i64 (Go.Lf.bits .or .i64 r16.2.1.2.2.1.1 r16.2.1.2.2.1.2.1) r19) : Int) = (0 : Int))), (r16.2.1, r16.2.2))
         else some (false, (r16.2.1, r16.2.2))).bind fun r20 =>
       ((Go.Lf.idx r1 z5.1)).bind fun r21 =>
       ((Go.Lf.idx r21 (0 : Int))).bind fun r22 =>
       bif (decide (((((UInt8.toNat r22) : Nat) : Int) : Int) = (43 : Int))) then some (r20.1, (z5.1, ((r20.2.1.1, (r20.2.1.2.1, (((Go.Lf.bits .or .i64 r20.2.1.2.2.1.1 r19), r20.2.1.2.2.1.2), r20.2.1.2.2.2))), r20.2.2)))
       else some (r20.1, (z5.1, ((r20.2.1.1, (r20.2.1.2.1, ((r20.2.1.2.2.1.1, ((Go.Lf.bits .or .i64 r20.2.1.2.2.1.2.1 r19), r20.2.1.2.2.1.2.2)), r20.2.1.2.2.2))), r20.2.2)))
       else some (false, (z5.1, (r16.2.1, r16.2.2)))).bind fun r23 =>
     some (.inl ((Go.IntKind.wrap .i64 (r23.2.1 + (1 : Int))), (r23.1, (r23.2.2.1, r23.2.2.2))))
     else some (.inr (z5.2.1, (r6.2.2, r6.2.1)))) ((1 : Int), (r4.2.2, ((r4.1, (r4.2.1, (r2, ()))), (([] : List (UInt8)), (([] : List (UInt8)), (((0 : Int), ((0 : Int), ((0 : Int), ()))), ())))))) : Option ((Bool) × (qT20 × qT20))).bind fun r24 =>
 bif (!r24.1) then some ((([] : List (UInt8)), (([] : List (UInt8)), (((0 : Int), ((0 : Int), ((0 : Int), ()))), ()))), (67 : Int))
 else some (r24.2.2, (0 : Int))
theorem folioref06_Parse_eq (a0 : List (UInt8)) : Go.Lf.fnE folioref06_ParseCtx folioref06_ParseCode folioref06_ParseAnn [.val .str] [(.st (.pr .str qY22)), (.int .i64)] [.cell 2 39, .tmp 3] (a0) = folioref06_Parse a0 := by kernel_rfl
noncomputable def folioref06_ParseEnt : Nat × Go.Lf.Entry := (11, ⟨[.val .str], [(.st (.pr .str qY22)), (.int .i64)], fun z => folioref06_Parse z⟩)
theorem folioref06_Parse_ok : Go.Lf.EntryOk Go.Proofs.Tryz.prog GG 11 folioref06_ParseEnt.2 :=
  Go.Lf.fn_ok (c := folioref06_ParseCtx) (code := folioref06_ParseCode) (an := folioref06_ParseAnn) (slots := [.cell 2 39, .tmp 3]) (fn := Go.Proofs.Tryz.f11) (by kernel_rfl) ⟨Tys_ok, Go.Lf.FnsOk.look (.con folioref06_words_ok (.con folioref06_None_ok (.con folioref06_names_ok (.con folioref06_color_ok (.con folioref06_bit_ok .nil))))), Go.Lf.IpsOk.look .nil⟩ (by kernel_rfl) (by kernel_rfl) (by kernel_rfl) (by kernel_rfl) (by kernel_rfl) (Nat.le_of_ble_eq_true rfl) (by simp [Go.Lf.Ty.top]) (by simp [Go.Lf.Ty.top]) fun z r h => (folioref06_Parse_eq z).trans h
noncomputable def foliolaw11_sheetsCtx : Go.Lf.Ctx := ⟨86, Tys, [], [], [], [], []⟩
noncomputable def foliolaw11_sheetsCode : Go.Code := (Go.Proofs.Tryz.f13.body).getD .skip
def foliolaw11_sheetsAnn : Go.Lf.Ann := (.seq .no (.seq .no (.seq (.seq .no (.loop ⟨[1, 0, 12], [], [(13, (.int .i64))], [], []⟩ (.more (.ext 0) ⟨[], [], [], [], []⟩ (.one .ret ⟨[], [], [(4, .bool)], [], []⟩)) (.seq .no (.seq .no (.seq (.seq .no (.seq (.join (.one .nrm ⟨[1, 0, 12, 13], [], [(84, .bool)], [], []⟩) (.draw 69)) .no)) .no))))) .no)))
noncomputable def foliolaw11_sheets (a0 : List qT20) (a1 : List qT20) : Option (Bool) :=
 bif (decide (((((List.length a0) : Nat) : Int) : Int) ≠ (((List.length a1) : Nat) : Int))) then some false
 else (Go.Lf.loopC (σ := Int) (κ := (Unit) ⊕ (Bool)) (fun z1 =>
     bif (decide (z1 < (((List.length a0) : Nat) : Int))) then (((Go.Lf.idx a0 z1)).bind fun r2 =>
       ((Go.Lf.idx a1 z1)).bind fun r3 =>
       bif (!(decide ((r2.1 : List (UInt8)) ≠ r3.1))) then ((Go.Lf.idx a0 z1)).bind fun r4 =>
       ((Go.Lf.idx a1 z1)).bind fun r5 =>
       bif (!(decide ((r4.2.1 : List (UInt8)) ≠ r5.2.1))) then ((Go.Lf.idx a0 z1)).bind fun r6 =>
       ((Go.Lf.idx a1 z1)).bind fun r7 =>
       bif (!(decide ((r6.2.2.1.1 : Int) ≠ r7.2.2.1.1))) then ((Go.Lf.idx a0 z1)).bind fun r8 =>
       ((Go.Lf.idx a1 z1)).bind fun r9 =>
       bif (!(decide ((r8.2.2.1.2.1 : Int) ≠ r9.2.2.1.2.1))) then ((Go.Lf.idx a0 z1)).bind fun r10 =>
       ((Go.Lf.idx a1 z1)).bind fun r11 =>
       some (decide ((r10.2.2.1.2.2.1 : Int) ≠ r11.2.2.1.2.2.1))
       else some true
       else some true
       else some true
       else some true).bind fun r12 =>
     bif r12 then some (.inr (.inr false))
     else some (.inl (Go.IntKind.wrap .i64 (z1 + (1 : Int))))
     else some (.inr (.inl ()))) (0 : Int) : Option ((Unit) ⊕ (Bool))).bind fun r13 =>
 Go.Lf.onSum r13 (fun a14 =>
 some true) (fun b15 =>
 some b15)
theorem foliolaw11_sheets_eq (a0 : List qT20) (a1 : List qT20) : Go.Lf.fnE foliolaw11_sheetsCtx foliolaw11_sheetsCode foliolaw11_sheetsAnn [.val qY30, .val qY30] [.bool] [.tmp 4] (a0, a1) = foliolaw11_sheets a0 a1 := by kernel_rfl
noncomputable def foliolaw11_sheetsEnt : Nat × Go.Lf.Entry := (13, ⟨[.val qY30, .val qY30], [.bool], fun z => foliolaw11_sheets z.1 z.2⟩)
theorem foliolaw11_sheets_ok : Go.Lf.EntryOk Go.Proofs.Tryz.prog GG 13 foliolaw11_sheetsEnt.2 :=
  Go.Lf.fn_ok (c := foliolaw11_sheetsCtx) (code := foliolaw11_sheetsCode) (an := foliolaw11_sheetsAnn) (slots := [.tmp 4]) (fn := Go.Proofs.Tryz.f13) (by kernel_rfl) ⟨Tys_ok, Go.Lf.FnsOk.look .nil, Go.Lf.IpsOk.look .nil⟩ (by kernel_rfl) (by kernel_rfl) (by kernel_rfl) (by kernel_rfl) (by kernel_rfl) (Nat.le_of_ble_eq_true rfl) (by simp [Go.Lf.Ty.top]) (by simp [Go.Lf.Ty.top]) fun z r h => (foliolaw11_sheets_eq z.1 z.2).trans h
noncomputable def foliolaw11_IrSheetsCtx : Go.Lf.Ctx := ⟨71, Tys, [foliolaw11_awakeEnt, ir_SheetEnt, folioref06_BaseEnt, folioref06_ParseEnt, style_CheckEnt, foliolaw11_sheetsEnt], [5, 48], [], [(5, qY32), (48, qY32)], []⟩
noncomputable def foliolaw11_IrSheetsCode : Go.Code := (Go.Proofs.Tryz.f3.body).getD .skip
def foliolaw11_IrSheetsAnn : Go.Lf.Ann := (.seq .no (.seq .no (.seq .no (.seq .no (.seq .no (.seq (.seq .no (.loop ⟨[27, 3, 28], [], [(5, qY32), (29, (.int .i64))], [], []⟩ (.more (.ext 0) ⟨[3], [], [(5, qY32)], [], []⟩ (.one .ret ⟨[], [], [(2, .bool)], [], []⟩)) (.seq .no (.seq .no (.seq (.seq .no (.seq .no (.loop ⟨[34, 27, 3, 28, 29, 35], [], [(36, (.int .i64)), (5, qY32)], [], []⟩ (.more (.ext 2) ⟨[27, 3, 28, 29], [], [(5, qY32)], [], []⟩ (.one .ret ⟨[], [], [(2, .bool)], [], []⟩)) .no))) .no))))) (.seq .no (.seq (.join (.one .nrm ⟨[], [], [(2, .bool)], [], []⟩) .no) .no))))))))
noncomputable def foliolaw11_IrSheets (a0 : List (qT3 × ((List qT54) × (Unit)))) : Option (Bool) :=
 (Go.Fn.foliolaw11_awake).bind fun r1 =>
 bif (!r1) then some false
 else ((Go.Fn.ir_Sheet a0)).bind fun r2 =>
 bif (Option.isSome r2.2) then some (decide (((((List.length r2.1) : Nat) : Int) : Int) = (0 : Int)))
 else (Go.Fn.folioref06_Base).bind fun r3 =>
 (Go.Lf.loopC (σ := (List qT20) × (Int)) (κ := (List qT20) ⊕ (Bool)) (fun z4 =>
     bif (decide (z4.2 < (((List.length a0) : Nat) : Int))) then ((Go.Lf.idx a0 z4.2)).bind fun r5 =>
     (Go.Lf.loopC (σ := (Int) × (List qT20)) (κ := (List qT20) ⊕ (Bool)) (fun z6 =>
         bif (decide (z6.1 < (((List.length r5.1) : Nat) : Int))) then ((Go.Lf.idx r5.1 z6.1)).bind fun r7 =>
         ((Go.Fn.folioref06_Parse r7.1)).bind fun r8 =>
         bif (decide ((r8.2 : Int) ≠ (0 : Int))) then some (.inr (.inr false))
         else ((Go.Lf.app (56 : Nat) z6.2 (r8.1 :: ([] : List qT20)))).bind fun r9 =>
         some (.inl ((Go.IntKind.wrap .i64 (z6.1 + (1 : Int))), r9))
         else some (.inr (.inl z6.2))) ((0 : Int), z4.1) : Option ((List qT20) ⊕ (Bool))).bind fun r10 =>
     Go.Lf.onSum r10 (fun a11 =>
     some (.inl (a11, (Go.IntKind.wrap .i64 (z4.2 + (1 : Int)))))) (fun b12 =>
     some (.inr (.inr b12)))
     else some (.inr (.inl z4.1))) (r3, (0 : Int)) : Option ((List qT20) ⊕ (Bool))).bind fun r13 =>
 Go.Lf.onSum r13 (fun a14 =>
 ((Go.Lf.app (56 : Nat) ([] : List qT20) r2.1)).bind fun r15 =>
 ((Go.Fn.style_Check r15)).bind fun r16 =>
 (((Go.Fn.foliolaw11_sheets r2.1 a14)).bind fun r17 =>
   bif r17 then bif (decide ((r16.1 : Int) = (0 : Int))) then some (decide ((r16.2 : Int) = (0 : Int)))
   else some false
   else some false).bind fun r18 =>
 some r18) (fun b19 =>
 some b19)
theorem foliolaw11_IrSheets_eq (a0 : List (qT3 × ((List qT54) × (Unit)))) : Go.Lf.fnE foliolaw11_IrSheetsCtx foliolaw11_IrSheetsCode foliolaw11_IrSheetsAnn [.val (.sl (.st (.pr (.sl qY0) qY59)))] [.bool] [.tmp 2] (a0) = foliolaw11_IrSheets a0 := by kernel_rfl
noncomputable def foliolaw11_IrSheetsEnt : Nat × Go.Lf.Entry := (3, ⟨[.val (.sl (.st (.pr (.sl qY0) qY59)))], [.bool], fun z => foliolaw11_IrSheets z⟩)
theorem foliolaw11_IrSheets_ok : Go.Lf.EntryOk Go.Proofs.Tryz.prog GG 3 foliolaw11_IrSheetsEnt.2 :=
  Go.Lf.fn_ok (c := foliolaw11_IrSheetsCtx) (code := foliolaw11_IrSheetsCode) (an := foliolaw11_IrSheetsAnn) (slots := [.tmp 2]) (fn := Go.Proofs.Tryz.f3) (by kernel_rfl) ⟨Tys_ok, Go.Lf.FnsOk.look (.con foliolaw11_awake_ok (.con ir_Sheet_ok (.con folioref06_Base_ok (.con folioref06_Parse_ok (.con style_Check_ok (.con foliolaw11_sheets_ok .nil)))))), Go.Lf.IpsOk.look .nil⟩ (by kernel_rfl) (by kernel_rfl) (by kernel_rfl) (by kernel_rfl) (by kernel_rfl) (Nat.le_of_ble_eq_true rfl) (by simp [Go.Lf.Ty.top]) (by simp [Go.Lf.Ty.top]) fun z r h => (foliolaw11_IrSheets_eq z).trans h
end Go.Fn
