/- Parts of the proof. -/
import Derived.Test.YtondadjjgbaehaaDoorProg
import Derived.KernelRfl
import Derived.Test.YtondadjjgbaehaaDoorQAD
import Derived.Carry
import Derived.ChangeSame
import Derived.ChangeMaps5
import Derived.SizedLaws
import Derived.ChangeSlices
import Derived.SliceStrings
import Derived.ProofKit
import Derived.OpenShut
import Derived.Deep.DeepHandedRow
import Derived.Lib.LaidTab
open Go Go.Lf
set_option maxRecDepth 10000
namespace Go.Fn
abbrev qY0 : Go.Lf.Ty := (.pr .str (.pr (.sl (.int .i64)) .unit))
abbrev qY1 : Go.Lf.Ty := (.pr (.int .i64) (.pr (.int .i64) .unit))
abbrev qY2 : Go.Lf.Ty := (.pr (.int .i32) (.pr (.int .i32) .unit))
abbrev qT3 : Type := ((Int) × ((Int) × ((Int) × ((Int) × (Unit)))))
abbrev qY4 : Go.Lf.Ty := (.pr (.int .i64) (.pr (.int .i64) (.pr .str .unit)))
abbrev qY5 : Go.Lf.Ty := (.st (.pr (.int .i64) qY1))
abbrev qY6 : Go.Lf.Ty := (.pr (.int .i32) (.pr (.int .i64) (.pr (.int .i64) (.pr .bool .unit))))
abbrev qY7 : Go.Lf.Ty := (.pr (.int .i64) (.pr (.int .i64) qY0))
abbrev qY8 : Go.Lf.Ty := (.pr (.st qY1) (.pr (.int .i64) .unit))
abbrev qY9 : Go.Lf.Ty := (.pr (.int .i64) (.pr (.int .i64) qY1))
abbrev qY10 : Go.Lf.Ty := (.pr (.sl (.st qY1)) (.pr .bool .unit))
abbrev qY11 : Go.Lf.Ty := (.pr (.rw 52 (.st qY1)) (.pr .bool .unit))
abbrev qY12 : Go.Lf.Ty := (.pr .str (.pr qY5 .unit))
abbrev qY13 : Go.Lf.Ty := (.st (.pr (.int .i64) qY9))
abbrev qY14 : Go.Lf.Ty := (.pr .str (.pr (.int .i64) qY8))
abbrev qY15 : Go.Lf.Ty := (.sl (.st (.pr .str qY12)))
abbrev qY16 : Go.Lf.Ty := (.pr (.st qY1) (.pr (.st qY1) .unit))
abbrev qY17 : Go.Lf.Ty := (.pr (.int .i64) (.pr (.int .i64) qY9))
abbrev qY18 : Go.Lf.Ty := (.pr (.sl (.st (.pr .bool qY9))) (.pr .bool .unit))
abbrev qY19 : Go.Lf.Ty := (.rw 47 (.sl (.st qY14)))
abbrev qT20 : Type := (((Int) × qT3) × (((Int) × qT3) × (Unit)))
abbrev qY21 : Go.Lf.Ty := (.pr (.mr 57 (.st qY14)) .unit)
abbrev qY22 : Go.Lf.Ty := (.rw 22 (.sl (.sl (.st qY14))))
abbrev qY23 : Go.Lf.Ty := (.pr (.dead 57 (.st qY14)) .unit)
abbrev qY24 : Go.Lf.Ty := (.pr (.int .u8) (.pr (.int .u8) (.pr (.int .u8) (.pr (.int .u8) (.pr (.int .u8) (.pr (.int .u8) (.pr (.int .u8) (.pr (.int .u8) .unit))))))))
abbrev qY25 : Go.Lf.Ty := (.pr (.int .i64) (.pr (.int .i64) qY17))
abbrev qY26 : Go.Lf.Ty := (.pr (.sl (.sl (.st qY14))) (.pr (.int .i64) .unit))
abbrev qY27 : Go.Lf.Ty := (.pr qY19 (.pr (.int .i64) .unit))
abbrev qY28 : Go.Lf.Ty := (.pr (.sl (.st qY9)) qY10)
abbrev qY29 : Go.Lf.Ty := (.pr (.sl (.st qY9)) qY11)
abbrev qY30 : Go.Lf.Ty := (.pr (.int .i64) (.pr (.int .i64) qY25))
abbrev qY31 : Go.Lf.Ty := (.pr (.sl (.st qY1)) qY26)
abbrev qY32 : Go.Lf.Ty := (.pr (.sl (.st qY1)) qY27)
abbrev qY33 : Go.Lf.Ty := (.pr (.st qY1) (.pr (.st qY1) qY16))
abbrev qY34 : Go.Lf.Ty := (.pr (.int .i64) (.pr (.int .i64) qY30))
abbrev qY35 : Go.Lf.Ty := (.pr qY13 (.pr qY13 .unit))
abbrev qT36 : Type := (((Int) × qT3) × (((Int) × qT3) × qT20))
abbrev qY37 : Go.Lf.Ty := (.pr (.int .i64) (.pr (.int .i64) qY34))
abbrev qY38 : Go.Lf.Ty := (.pr (.sl (.st qY14)) (.pr (.int .i64) (.pr (.sl (.st qY14)) .unit)))
abbrev qY39 : Go.Lf.Ty := (.pr (.int .u8) (.pr (.int .u8) (.pr (.int .u8) (.pr (.int .u8) (.pr (.int .u8) (.pr (.int .u8) (.pr (.int .u8) (.pr (.int .u8) qY24))))))))
abbrev qY40 : Go.Lf.Ty := (.pr (.rw 57 (.st qY14)) (.pr (.int .i64) qY21))
abbrev qY41 : Go.Lf.Ty := (.pr (.rw 57 (.st qY14)) (.pr (.int .i64) qY23))
abbrev qY42 : Go.Lf.Ty := (.pr (.int .i64) (.pr (.int .i64) qY37))
abbrev qY43 : Go.Lf.Ty := (.pr (.sl (.sl (.st qY14))) qY28)
abbrev qY44 : Go.Lf.Ty := (.pr (.st (.pr qY19 qY29)) .unit)
abbrev qY45 : Go.Lf.Ty := (.pr (.st qY1) (.pr (.st qY1) qY33))
abbrev qY46 : Go.Lf.Ty := (.pr (.int .i64) (.pr (.int .i64) qY42))
abbrev qY47 : Go.Lf.Ty := (.pr (.int .i64) (.pr (.int .i64) qY46))
abbrev qT48 : Type := (((Int) × qT3) × (((Int) × qT3) × qT36))
abbrev qY49 : Go.Lf.Ty := (.pr (.int .i64) (.pr (.int .i64) qY47))
abbrev qY50 : Go.Lf.Ty := (.pr (.int .u8) (.pr (.int .u8) (.pr (.int .u8) (.pr (.int .u8) (.pr (.int .u8) (.pr (.int .u8) (.pr (.int .u8) (.pr (.int .u8) qY39))))))))
abbrev qY51 : Go.Lf.Ty := (.pr (.int .i64) (.pr qY19 qY40))
abbrev qY52 : Go.Lf.Ty := (.pr (.int .i64) (.pr qY19 qY41))
abbrev qY53 : Go.Lf.Ty := (.pr (.st qY1) (.pr (.st qY1) qY45))
abbrev qY54 : Go.Lf.Ty := (.pr (.int .i64) (.pr (.int .i64) qY49))
abbrev qY55 : Go.Lf.Ty := (.pr qY13 (.pr qY13 qY35))
abbrev qY56 : Go.Lf.Ty := (.ml 149 (.st qY31) (.st qY32))
abbrev qY57 : Go.Lf.Ty := (.pr (.int .i64) (.pr (.int .i64) qY54))
abbrev qY58 : Go.Lf.Ty := (.pr (.rw 57 (.st qY14)) (.pr (.int .i64) qY44))
abbrev qT59 : Type := (((Int) × qT3) × (((Int) × qT3) × qT48))
abbrev qY60 : Go.Lf.Ty := (.pr (.int .i64) (.pr (.int .i64) qY57))
abbrev qY61 : Go.Lf.Ty := (.pr (.st qY1) (.pr (.st qY1) qY53))
abbrev qY62 : Go.Lf.Ty := (.pr (.int .i64) (.pr (.int .i64) qY60))
abbrev qY63 : Go.Lf.Ty := (.pr (.int .i64) (.pr (.int .i64) qY62))
abbrev qT64 : Type := (((Int) × qT3) × (((Int) × qT3) × qT59))
abbrev qY65 : Go.Lf.Ty := (.pr (.st qY63) (.pr (.int .i64) .unit))
abbrev qY66 : Go.Lf.Ty := (.pr (.st qY1) (.pr (.st qY1) qY61))
abbrev qY67 : Go.Lf.Ty := (.pr qY13 (.pr qY13 qY55))
abbrev qT68 : Type := (((Int) × qT3) × (((Int) × qT3) × qT64))
abbrev qY69 : Go.Lf.Ty := (.pr (.st qY1) (.pr (.st qY1) qY66))
abbrev qY70 : Go.Lf.Ty := (.pr (.int .i64) (.pr (.int .i64) (.pr (.sl qY5) (.pr (.sl (.st qY31)) (.pr (.sl (.st qY14)) (.pr (.int .i64) (.pr (.st qY43) .unit)))))))
abbrev qT71 : Type := (((Int) × qT3) × (((Int) × qT3) × qT68))
abbrev qY72 : Go.Lf.Ty := (.pr (.st qY1) (.pr (.st qY1) qY69))
abbrev qY73 : Go.Lf.Ty := (.pr qY13 (.pr qY13 qY67))
abbrev qY74 : Go.Lf.Ty := (.pr (.st qY1) (.pr (.st qY1) qY72))
abbrev qT75 : Type := (((Int) × qT3) × (((Int) × qT3) × qT71))
abbrev qY76 : Go.Lf.Ty := (.pr (.mr 144 qY5) (.pr qY56 qY58))
abbrev qY77 : Go.Lf.Ty := (.pr (.int .i64) (.pr (.int .i64) qY76))
abbrev qY78 : Go.Lf.Ty := (.pr (.st qY1) (.pr (.st qY1) qY74))
abbrev qY79 : Go.Lf.Ty := (.pr qY13 (.pr qY13 qY73))
abbrev qT80 : Type := (((Int) × qT3) × (((Int) × qT3) × qT75))
abbrev qY81 : Go.Lf.Ty := (.pr (.st qY1) (.pr (.st qY1) qY78))
abbrev qT82 : Type := (((Int) × qT3) × (((Int) × qT3) × qT80))
abbrev qY83 : Go.Lf.Ty := (.pr (.st qY1) (.pr (.st qY1) qY81))
abbrev qY84 : Go.Lf.Ty := (.pr qY13 (.pr qY13 qY79))
abbrev qT85 : Type := (((Int) × qT3) × (((Int) × qT3) × qT82))
abbrev qY86 : Go.Lf.Ty := (.pr (.st qY1) (.pr (.st qY1) qY83))
abbrev qT87 : Type := (((Int) × qT3) × (((Int) × qT3) × qT85))
abbrev qY88 : Go.Lf.Ty := (.pr (.st qY1) (.pr (.st qY1) qY86))
abbrev qY89 : Go.Lf.Ty := (.pr qY13 (.pr qY13 qY84))
abbrev qT90 : Type := (((Int) × qT3) × (((Int) × qT3) × qT87))
abbrev qY91 : Go.Lf.Ty := (.pr (.st qY1) (.pr (.st qY1) qY88))
abbrev qY92 : Go.Lf.Ty := (.pr (.st qY1) (.pr (.st qY1) qY91))
abbrev qY93 : Go.Lf.Ty := (.pr qY13 (.pr qY13 qY89))
abbrev qY94 : Go.Lf.Ty := (.pr qY13 (.pr qY13 qY93))
abbrev qY95 : Go.Lf.Ty := (.pr qY13 (.pr qY13 qY94))
abbrev qY96 : Go.Lf.Ty := (.st (.pr (.st qY92) qY65))
abbrev qY97 : Go.Lf.Ty := (.pr qY13 (.pr qY13 qY95))
abbrev qY98 : Go.Lf.Ty := (.pr qY13 (.pr qY13 qY97))
abbrev qY99 : Go.Lf.Ty := (.pr qY13 (.pr qY13 qY98))
abbrev qY100 : Go.Lf.Ty := (.st (.pr (.st qY99) qY9))
abbrev qY101 : Go.Lf.Ty := (.pr qY96 (.pr (.rw 74 qY5) qY77))
abbrev qY102 : Go.Lf.Ty := (.st (.pr (.st qY4) qY101))
def TysR : List (Nat × Go.Lf.TyI) := [(2, ⟨(.int .i64), 0, 0⟩),
 (3, ⟨(.int .i64), 0, 0⟩),
 (4, ⟨.bool, 0, 0⟩),
 (5, ⟨(.int .u8), 0, 0⟩),
 (6, ⟨(.int .u8), 0, 0⟩),
 (7, ⟨(.st (.pr (.int .i64) (.pr (.int .i64) (.pr .bool (.pr (.int .u8) .unit))))), 0, 0⟩),
 (8, ⟨(.st (.pr (.int .i64) (.pr (.int .i64) (.pr .bool (.pr (.int .u8) .unit))))), 0, 0⟩),
 (9, ⟨.str, 0, 0⟩),
 (10, ⟨.str, 0, 0⟩),
 (11, ⟨.str, 0, 0⟩),
 (12, ⟨(.int .u64), 0, 0⟩),
 (13, ⟨(.st (.pr .str (.pr (.int .u64) .unit))), 0, 0⟩),
 (14, ⟨(.st (.pr .str (.pr (.int .u64) .unit))), 0, 0⟩),
 (21, ⟨(.int .i32), 0, 0⟩),
 (22, ⟨(.sl (.sl (.st qY14))), 47, 24⟩),
 (23, ⟨(.sl (.st qY9)), 50, 32⟩),
 (24, ⟨(.sl (.st qY1)), 52, 16⟩),
 (25, ⟨(.st qY43), 0, 0⟩),
 (26, ⟨(.st qY43), 0, 0⟩),
 (27, ⟨(.sl (.st qY1)), 37, 16⟩),
 (33, ⟨(.sl .str), 9, 16⟩),
 (36, ⟨(.st qY1), 0, 0⟩),
 (37, ⟨(.st qY1), 0, 0⟩),
 (41, ⟨qY15, 76, 56⟩),
 (42, ⟨(.sl (.st qY7)), 63, 56⟩),
 (43, ⟨(.int .i64), 0, 0⟩),
 (47, ⟨(.sl (.st qY14)), 57, 48⟩),
 (49, ⟨(.st qY9), 0, 0⟩),
 (50, ⟨(.st qY9), 0, 0⟩),
 (51, ⟨(.st qY1), 0, 0⟩),
 (52, ⟨(.st qY1), 0, 0⟩),
 (54, ⟨(.st qY1), 0, 0⟩),
 (55, ⟨(.st qY1), 0, 0⟩),
 (56, ⟨(.st qY14), 0, 0⟩),
 (57, ⟨(.st qY14), 0, 0⟩),
 (59, ⟨(.sl (.int .i64)), 3, 8⟩),
 (60, ⟨(.sl .bool), 4, 1⟩),
 (61, ⟨(.int .i64), 0, 0⟩),
 (62, ⟨(.st qY7), 0, 0⟩),
 (63, ⟨(.st qY7), 0, 0⟩),
 (64, ⟨(.sl (.st (.pr .str qY1))), 67, 32⟩),
 (66, ⟨(.st (.pr .str qY1)), 0, 0⟩),
 (67, ⟨(.st (.pr .str qY1)), 0, 0⟩),
 (72, ⟨(.sl qY5), 74, 24⟩),
 (73, ⟨qY5, 0, 0⟩),
 (74, ⟨qY5, 0, 0⟩),
 (75, ⟨(.st (.pr .str qY12)), 0, 0⟩),
 (76, ⟨(.st (.pr .str qY12)), 0, 0⟩),
 (82, ⟨(.sl (.int .u8)), 5, 1⟩),
 (90, ⟨(.int .u64), 0, 0⟩),
 (95, ⟨(.st qY4), 0, 0⟩),
 (96, ⟨(.st qY4), 0, 0⟩),
 (97, ⟨(.st qY92), 55, 32⟩),
 (98, ⟨(.st qY63), 3, 32⟩),
 (99, ⟨qY96, 0, 0⟩),
 (100, ⟨qY96, 0, 0⟩),
 (101, ⟨(.sl qY5), 144, 24⟩),
 (102, ⟨(.sl (.st qY31)), 149, 56⟩),
 (103, ⟨(.st (.pr (.st qY4) (.pr qY96 (.pr (.sl qY5) qY70)))), 0, 0⟩),
 (104, ⟨(.st (.pr (.st qY4) (.pr qY96 (.pr (.sl qY5) qY70)))), 0, 0⟩),
 (108, ⟨(.sl (.st qY6)), 112, 32⟩),
 (111, ⟨(.st qY6), 0, 0⟩),
 (112, ⟨(.st qY6), 0, 0⟩),
 (114, ⟨(.sl (.st (.pr .bool qY9))), 178, 40⟩),
 (115, ⟨(.st (.pr .bool (.pr (.sl .bool) qY18))), 0, 0⟩),
 (116, ⟨(.st (.pr .bool (.pr (.sl .bool) qY18))), 0, 0⟩),
 (117, ⟨(.st (.pr (.st (.pr .bool (.pr (.sl .bool) qY18))) .unit)), 0, 0⟩),
 (118, ⟨(.st (.pr (.st (.pr .bool (.pr (.sl .bool) qY18))) .unit)), 0, 0⟩),
 (130, ⟨qY13, 0, 0⟩),
 (131, ⟨qY13, 0, 0⟩),
 (132, ⟨(.st qY99), 131, 26⟩),
 (133, ⟨qY100, 0, 0⟩),
 (134, ⟨qY100, 0, 0⟩),
 (139, ⟨(.sl (.st (.pr .str qY1))), 141, 32⟩),
 (141, ⟨(.st (.pr .str qY1)), 0, 0⟩),
 (143, ⟨qY5, 0, 0⟩),
 (144, ⟨qY5, 0, 0⟩),
 (145, ⟨(.sl (.st qY1)), 173, 16⟩),
 (148, ⟨(.st qY31), 0, 0⟩),
 (149, ⟨(.st qY31), 0, 0⟩),
 (172, ⟨(.st qY1), 0, 0⟩),
 (173, ⟨(.st qY1), 0, 0⟩),
 (177, ⟨(.st (.pr .bool qY9)), 0, 0⟩),
 (178, ⟨(.st (.pr .bool qY9)), 0, 0⟩),
 (182, ⟨(.st qY2), 21, 2⟩),
 (183, ⟨(.st (.pr (.st qY2) (.pr (.st qY2) (.pr (.st qY2) (.pr (.st qY2) (.pr (.st qY2) (.pr (.st qY2) (.pr (.st qY2) (.pr (.st qY2) (.pr (.st qY2) (.pr (.st qY2) (.pr (.st qY2) (.pr (.st qY2) (.pr (.st qY2) .unit)))))))))))))), 182, 13⟩),
 (186, ⟨(.st (.pr (.int .i64) (.pr (.sl (.sl (.st qY14))) qY38))), 0, 0⟩),
 (187, ⟨(.st (.pr (.int .i64) (.pr (.sl (.sl (.st qY14))) qY38))), 0, 0⟩),
 (192, ⟨(.sl (.sl (.sl (.st qY14)))), 22, 24⟩),
 (197, ⟨(.st (.pr (.int .u8) (.pr (.int .u8) .unit))), 0, 0⟩),
 (198, ⟨(.st (.pr (.int .u8) (.pr (.int .u8) .unit))), 0, 0⟩),
 (201, ⟨(.st qY50), 5, 24⟩),
 (208, ⟨(.st (.pr (.int .u64) (.pr (.int .u64) (.pr (.int .u64) (.pr (.int .u64) (.pr (.int .u64) (.pr (.int .u64) (.pr (.int .u64) (.pr (.int .u64) (.pr (.int .u64) (.pr (.int .u64) (.pr (.int .u64) (.pr (.int .u64) (.pr (.int .u64) (.pr (.int .u64) (.pr (.int .u64) (.pr (.int .u64) (.pr (.int .u64) (.pr (.int .u64) (.pr (.int .u64) (.pr (.int .u64) .unit))))))))))))))))))))), 90, 20⟩),
 (209, ⟨(.int .u32), 0, 0⟩),
 (214, ⟨(.st (.pr (.int .u8) (.pr (.int .u8) (.pr (.int .u8) (.pr (.int .u8) (.pr (.int .u8) (.pr (.int .u8) (.pr (.int .u8) (.pr (.int .u8) qY50))))))))), 5, 32⟩),
 (221, ⟨(.int .u8), 0, 0⟩),
 (222, ⟨(.int .u8), 0, 0⟩),
 (224, ⟨(.int .i32), 0, 0⟩),
 (225, ⟨(.int .i32), 0, 0⟩),
 (129, ⟨(.ptr qY100), 0, 0⟩),
 (156, ⟨(.ptr qY13), 0, 0⟩),
 (160, ⟨(.ptr (.st qY4)), 0, 0⟩),
 (161, ⟨(.ptr qY96), 0, 0⟩),
 (169, ⟨(.ptr qY5), 0, 0⟩),
 (185, ⟨(.ptr (.st (.pr (.int .i64) (.pr (.sl (.sl (.st qY14))) qY38)))), 0, 0⟩)]
theorem TysR_ok : ∀ id i, Go.Lf.look TysR id = some i → Go.Lf.TyOk Go.Proofs.Tryd.prog id i := Go.Lf.tysB_ok (by kernel_rfl)
def TysREq : List (Nat × Go.Lf.Ty) := [(50, qY9), (52, qY1), (57, qY14)]
theorem TysREq_ok : ∀ id t, Go.Lf.look TysREq id = some t → Go.Lf.eqTop Go.Proofs.Tryd.prog id t = true := Go.Lf.eqsB_ok (by kernel_rfl)
noncomputable def style_named_rRun : Go.Lf.RunS := ⟨⟨28, TysR, [], [], [], [], [], TysREq, [], some 4000⟩, (Go.Proofs.Tryd.f49.body).getD .skip, (.seq .no (.seq (.seq (.join (.one .nrm ⟨[0], [], [(11, .bool)], [], []⟩) .no) .no) (.seq (.seq .no (.loop ⟨[0, 13], [], [(14, (.int .i64))], [], []⟩ (.more (.ext 0) ⟨[], [], [], [], []⟩ (.one .ret ⟨[], [], [(2, .bool)], [], []⟩)) (.seq .no (.seq .no (.seq (.seq .no (.seq (.join (.one .nrm ⟨[0, 13, 14], [], [(26, .bool)], [], []⟩) .no) .no)) .no))))) .no))), [.val .str], [.bool], [.tmp 2]⟩
noncomputable def style_named_r := style_named_rRun.F
noncomputable def style_named_rEnt : Nat × Go.Lf.Entry := (49, ⟨[.val .str], [.bool], style_named_r⟩)
theorem style_named_r_ok : Go.Lf.EntryOk Go.Proofs.Tryd.prog GG 49 style_named_rEnt.2 := Go.Lf.run_ok style_named_rRun Go.Proofs.Tryd.f49 (by kernel_rfl) ⟨TysR_ok, Go.Lf.FnsOk.look .nil, Go.Lf.IpsOk.look .nil, TysREq_ok, Go.Lf.FxsOk.look .nil⟩ (by kernel_rfl) (by kernel_rfl) (by kernel_rfl) (by kernel_rfl) (by kernel_rfl) (by kernel_rfl) (by kernel_rfl)
noncomputable def style_Find_rRun : Go.Lf.RunS := ⟨⟨21, TysR, [], [], [], [], [], TysREq, [], some 4000⟩, (Go.Proofs.Tryd.f50.body).getD .skip, (.seq .no (.seq (.seq .no (.loop ⟨[1, 0, 8], [], [(9, (.int .i64))], [], []⟩ (.more (.ext 0) ⟨[], [], [], [], []⟩ (.one .ret ⟨[], [], [(4, (.int .i64)), (5, .bool)], [], []⟩)) .no)) .no)), [.val qY15, .val .str], [(.int .i64), .bool], [.tmp 4, .tmp 5]⟩
noncomputable def style_Find_r := style_Find_rRun.F
noncomputable def style_Find_rEnt : Nat × Go.Lf.Entry := (50, ⟨[.val qY15, .val .str], [(.int .i64), .bool], style_Find_r⟩)
theorem style_Find_r_ok : Go.Lf.EntryOk Go.Proofs.Tryd.prog GG 50 style_Find_rEnt.2 := Go.Lf.run_ok style_Find_rRun Go.Proofs.Tryd.f50 (by kernel_rfl) ⟨TysR_ok, Go.Lf.FnsOk.look .nil, Go.Lf.IpsOk.look .nil, TysREq_ok, Go.Lf.FxsOk.look .nil⟩ (by kernel_rfl) (by kernel_rfl) (by kernel_rfl) (by kernel_rfl) (by kernel_rfl) (by kernel_rfl) (by kernel_rfl)
noncomputable def style_change_rRun : Go.Lf.RunS := ⟨⟨41, TysR, [], [], [], [], [], TysREq, [], some 4000⟩, (Go.Proofs.Tryd.f51.body).getD .skip, (.seq .no (.seq (.seq (.join (.one .nrm ⟨[], [(1, .ref 1 [] 0)], [(3, .bool)], [(1, 74, qY5)], []⟩) .no) (.cnd .no (.seq (.join (.one .nrm ⟨[], [], [(32, .bool)], [], []⟩) .no) .no))) .no)), [.val qY5], [(.int .i64)], [.tmp 2]⟩
noncomputable def style_change_r := style_change_rRun.F
noncomputable def style_change_rEnt : Nat × Go.Lf.Entry := (51, ⟨[.val qY5], [(.int .i64)], style_change_r⟩)
theorem style_change_r_ok : Go.Lf.EntryOk Go.Proofs.Tryd.prog GG 51 style_change_rEnt.2 := Go.Lf.run_ok style_change_rRun Go.Proofs.Tryd.f51 (by kernel_rfl) ⟨TysR_ok, Go.Lf.FnsOk.look .nil, Go.Lf.IpsOk.look .nil, TysREq_ok, Go.Lf.FxsOk.look .nil⟩ (by kernel_rfl) (by kernel_rfl) (by kernel_rfl) (by kernel_rfl) (by kernel_rfl) (by kernel_rfl) (by kernel_rfl)
noncomputable def style_ends_rRun : Go.Lf.RunS := ⟨⟨33, TysR, [style_Find_rEnt], [], [], [], [], TysREq, [], some 4000⟩, (Go.Proofs.Tryd.f52.body).getD .skip, (.seq .no (.seq .no (.seq .no (.seq (.seq .no (.loop ⟨[0], [], [(8, (.int .i64)), (1, (.int .i64)), (5, .bool)], [], []⟩ (.one (.ext 0) ⟨[], [], [(5, .bool)], [], []⟩) (.seq .no (.seq .no (.seq (.seq .no (.seq (.seq (.join (.one .nrm ⟨[0, 5, 8, 6], [], [(29, .bool)], [], []⟩) .no) .no) .no)) .no))))) .no)))), [.val qY15, .val (.int .i64)], [.bool], [.tmp 4]⟩
noncomputable def style_ends_r := style_ends_rRun.F
noncomputable def style_ends_rEnt : Nat × Go.Lf.Entry := (52, ⟨[.val qY15, .val (.int .i64)], [.bool], style_ends_r⟩)
theorem style_ends_r_ok : Go.Lf.EntryOk Go.Proofs.Tryd.prog GG 52 style_ends_rEnt.2 := Go.Lf.run_ok style_ends_rRun Go.Proofs.Tryd.f52 (by kernel_rfl) ⟨TysR_ok, Go.Lf.FnsOk.look (.con style_Find_r_ok .nil), Go.Lf.IpsOk.look .nil, TysREq_ok, Go.Lf.FxsOk.look .nil⟩ (by kernel_rfl) (by kernel_rfl) (by kernel_rfl) (by kernel_rfl) (by kernel_rfl) (by kernel_rfl) (by kernel_rfl)
noncomputable def style_Check_rRun : Go.Lf.RunS := ⟨⟨73, TysR, [style_named_rEnt, style_Find_rEnt, style_change_rEnt, style_ends_rEnt], [], [], [], [], TysREq, [], some 4000⟩, (Go.Proofs.Tryd.f34.body).getD .skip, (.seq .no (.seq .no (.seq (.seq .no (.loop ⟨[0, 16, 17], [], [(18, (.int .i64))], [], []⟩ (.more (.ext 0) ⟨[0], [], [], [], []⟩ (.one .ret ⟨[], [], [(2, (.int .i64)), (3, (.int .i64))], [], []⟩)) (.seq .no (.seq .no (.seq (.seq .no (.seq .no (.seq (.seq (.draw 11) .no) .no))) .no))))) (.seq (.seq .no (.loop ⟨[0, 47, 48], [], [(49, (.int .i64))], [], []⟩ (.more (.ext 2) ⟨[], [], [], [], []⟩ (.one .ret ⟨[], [], [(2, (.int .i64)), (3, (.int .i64))], [], []⟩)) (.seq .no (.seq .no (.seq (.join (.more .nrm ⟨[0, 47, 48, 49], [], [], [], []⟩ (.one .ret ⟨[], [], [(2, (.int .i64)), (3, (.int .i64))], [], []⟩)) .no) .no))))) .no)))), [.val qY15], [(.int .i64), (.int .i64)], [.tmp 2, .tmp 3]⟩
noncomputable def style_Check_r := style_Check_rRun.F
noncomputable def style_Check_rEnt : Nat × Go.Lf.Entry := (34, ⟨[.val qY15], [(.int .i64), (.int .i64)], style_Check_r⟩)
theorem style_Check_r_ok : Go.Lf.EntryOk Go.Proofs.Tryd.prog GG 34 style_Check_rEnt.2 := Go.Lf.run_ok style_Check_rRun Go.Proofs.Tryd.f34 (by kernel_rfl) ⟨TysR_ok, Go.Lf.FnsOk.look (.con style_named_r_ok (.con style_Find_r_ok (.con style_change_r_ok (.con style_ends_r_ok .nil)))), Go.Lf.IpsOk.look .nil, TysREq_ok, Go.Lf.FxsOk.look .nil⟩ (by kernel_rfl) (by kernel_rfl) (by kernel_rfl) (by kernel_rfl) (by kernel_rfl) (by kernel_rfl) (by kernel_rfl)
noncomputable def text_control_rRun : Go.Lf.RunS := ⟨⟨13, TysR, [], [], [], [], [], TysREq, [], some 4000⟩, (Go.Proofs.Tryd.f108.body).getD .skip, (.seq .no (.seq (.join (.one .nrm ⟨[], [], [(2, .bool)], [], []⟩) .no) .no)), [.val (.int .i32)], [.bool], [.tmp 2]⟩
noncomputable def text_control_r := text_control_rRun.F
noncomputable def text_control_rEnt : Nat × Go.Lf.Entry := (108, ⟨[.val (.int .i32)], [.bool], text_control_r⟩)
theorem text_control_r_ok : Go.Lf.EntryOk Go.Proofs.Tryd.prog GG 108 text_control_rEnt.2 := Go.Lf.run_ok text_control_rRun Go.Proofs.Tryd.f108 (by kernel_rfl) ⟨TysR_ok, Go.Lf.FnsOk.look .nil, Go.Lf.IpsOk.look .nil, TysREq_ok, Go.Lf.FxsOk.look .nil⟩ (by kernel_rfl) (by kernel_rfl) (by kernel_rfl) (by kernel_rfl) (by kernel_rfl) (by kernel_rfl) (by kernel_rfl)
noncomputable def text_bad_rRun : Go.Lf.RunS := ⟨⟨20, TysR, [utf8_DecodeEnt], [], [], [], [], TysREq, [], some 4000⟩, (Go.Proofs.Tryd.f109.body).getD .skip, (.seq .no (.seq .no (.seq (.join (.one .nrm ⟨[], [], [(4, .bool)], [], []⟩) .no) .no))), [.val .str, .val (.int .i64)], [.bool], [.tmp 4]⟩
noncomputable def text_bad_r := text_bad_rRun.F
noncomputable def text_bad_rEnt : Nat × Go.Lf.Entry := (109, ⟨[.val .str, .val (.int .i64)], [.bool], text_bad_r⟩)
theorem text_bad_r_ok : Go.Lf.EntryOk Go.Proofs.Tryd.prog GG 109 text_bad_rEnt.2 := Go.Lf.run_ok text_bad_rRun Go.Proofs.Tryd.f109 (by kernel_rfl) ⟨TysR_ok, Go.Lf.FnsOk.look (.con utf8_Decode_ok .nil), Go.Lf.IpsOk.look .nil, TysREq_ok, Go.Lf.FxsOk.look .nil⟩ (by kernel_rfl) (by kernel_rfl) (by kernel_rfl) (by kernel_rfl) (by kernel_rfl) (by kernel_rfl) (by kernel_rfl)
noncomputable def text_Plain_rRun : Go.Lf.RunS := ⟨⟨24, TysR, [text_control_rEnt, text_bad_rEnt], [], [], [], [], TysREq, [], some 4000⟩, (Go.Proofs.Tryd.f93.body).getD .skip, (.seq .no (.seq (.seq .no (.loop ⟨[0], [], [(7, .it)], [], []⟩ (.more .ret ⟨[], [], [(2, (.int .i64)), (3, .bool)], [], []⟩ (.one (.ext 0) ⟨[], [], [], [], []⟩)) (.seq .no (.seq .no (.seq .no (.seq (.join (.one .nrm ⟨[4, 0], [], [(22, .bool), (7, .it)], [], []⟩) .no) .no)))))) .no)), [.val .str], [(.int .i64), .bool], [.tmp 2, .tmp 3]⟩
noncomputable def text_Plain_r := text_Plain_rRun.F
noncomputable def text_Plain_rEnt : Nat × Go.Lf.Entry := (93, ⟨[.val .str], [(.int .i64), .bool], text_Plain_r⟩)
theorem text_Plain_r_ok : Go.Lf.EntryOk Go.Proofs.Tryd.prog GG 93 text_Plain_rEnt.2 := Go.Lf.run_ok text_Plain_rRun Go.Proofs.Tryd.f93 (by kernel_rfl) ⟨TysR_ok, Go.Lf.FnsOk.look (.con text_control_r_ok (.con text_bad_r_ok .nil)), Go.Lf.IpsOk.look .nil, TysREq_ok, Go.Lf.FxsOk.look .nil⟩ (by kernel_rfl) (by kernel_rfl) (by kernel_rfl) (by kernel_rfl) (by kernel_rfl) (by kernel_rfl) (by kernel_rfl)
noncomputable def ir_plain_rRun : Go.Lf.RunS := ⟨⟨15, TysR, [text_Plain_rEnt], [], [], [], [], TysREq, [], some 4000⟩, (Go.Proofs.Tryd.f72.body).getD .skip, (.seq .no (.seq .no (.seq (.join (.one .nrm ⟨[], [], [(2, .bool)], [], []⟩) .no) .no))), [.val .str], [.bool], [.tmp 2]⟩
noncomputable def ir_plain_r := ir_plain_rRun.F
noncomputable def ir_plain_rEnt : Nat × Go.Lf.Entry := (72, ⟨[.val .str], [.bool], ir_plain_r⟩)
theorem ir_plain_r_ok : Go.Lf.EntryOk Go.Proofs.Tryd.prog GG 72 ir_plain_rEnt.2 := Go.Lf.run_ok ir_plain_rRun Go.Proofs.Tryd.f72 (by kernel_rfl) ⟨TysR_ok, Go.Lf.FnsOk.look (.con text_Plain_r_ok .nil), Go.Lf.IpsOk.look .nil, TysREq_ok, Go.Lf.FxsOk.look .nil⟩ (by kernel_rfl) (by kernel_rfl) (by kernel_rfl) (by kernel_rfl) (by kernel_rfl) (by kernel_rfl) (by kernel_rfl)
noncomputable def ir_walker__form_rRun : Go.Lf.RunS := ⟨⟨131, TysR, [ir_plain_rEnt], [], [], [], [], TysREq, [], some 4000⟩, (Go.Proofs.Tryd.f53.body).getD .skip, (.seq .no (.seq (.draw 13) (.seq (.join (.more .nrm ⟨[], [(0, .ref 0 [] 0)], [(7, .bool), (6, .bool), (5, .bool)], [(0, 134, qY100)], []⟩ (.one .ret ⟨[], [(0, .ref 0 [] 0)], [(4, .bool)], [(0, 134, qY100)], []⟩)) (.seq .no (.seq .no (.cnd .no (.seq .no (.cnd (.draw 13) (.seq (.join (.one .nrm ⟨[7, 6, 5, 21], [(0, .ref 0 [] 0), (3, .ref 3 [] 0)], [(48, .bool)], [(0, 134, qY100), (3, 63, (.st qY7))], []⟩) .no) (.cnd (.draw 13) (.seq .no (.cnd (.draw 13) (.seq .no (.cnd .no (.seq .no (.cnd (.seq (.join (.one .nrm ⟨[6, 5], [(0, .ref 0 [] 0), (3, .ref 3 [] 0)], [(7, .bool)], [(0, 134, qY100), (3, 63, (.st qY7))], []⟩) .no) (.seq .no (.loop ⟨[100, 6, 5, 101], [(0, .ref 0 [] 0)], [(102, (.int .i64)), (7, .bool)], [(0, 134, qY100)], []⟩ (.one (.ext 1) ⟨[6, 5], [(0, .ref 0 [] 0)], [(7, .bool)], [(0, 134, qY100)], []⟩) (.seq .no (.seq .no (.seq (.join (.one .nrm ⟨[100, 6, 5, 101, 102], [(0, .ref 0 [] 0)], [(7, .bool)], [(0, 134, qY100)], []⟩) .no) .no)))))) (.seq (.join (.one .nrm ⟨[7, 6, 5], [(0, .ref 0 [] 0)], [(116, .bool)], [(0, 134, qY100)], []⟩) .no) .no))))))))))))))) (.seq (.join (.one .nrm ⟨[], [(0, .ref 0 [] 0)], [(4, .bool)], [(0, 134, qY100)], []⟩) .no) .no)))), [.obj 134 qY100 qY100 [], .val (.st qY7)], [.bool], [.tmp 4]⟩
noncomputable def ir_walker__form_r := ir_walker__form_rRun.F
noncomputable def ir_walker__form_rEnt : Nat × Go.Lf.Entry := (53, ⟨[.obj 134 qY100 qY100 [], .val (.st qY7)], [.bool], ir_walker__form_r⟩)
theorem ir_walker__form_r_ok : Go.Lf.EntryOk Go.Proofs.Tryd.prog GG 53 ir_walker__form_rEnt.2 := Go.Lf.run_ok ir_walker__form_rRun Go.Proofs.Tryd.f53 (by kernel_rfl) ⟨TysR_ok, Go.Lf.FnsOk.look (.con ir_plain_r_ok .nil), Go.Lf.IpsOk.look .nil, TysREq_ok, Go.Lf.FxsOk.look .nil⟩ (by kernel_rfl) (by kernel_rfl) (by kernel_rfl) (by kernel_rfl) (by kernel_rfl) (by kernel_rfl) (by kernel_rfl)
noncomputable def ir_walker__para_rRun : Go.Lf.RunS := ⟨⟨22, TysR, [], [], [], [], [], TysREq, [], some 4000⟩, (Go.Proofs.Tryd.f73.body).getD .skip, (.seq .no (.seq (.seq .no (.loop ⟨[], [(0, .ref 0 [] 0)], [(3, (.int .i64))], [(0, 134, qY100)], []⟩ (.more (.ext 0) ⟨[], [(0, .ref 0 [] 0)], [], [(0, 134, qY100)], []⟩ (.one .ret ⟨[], [(0, .ref 0 [] 0)], [(2, (.int .i64))], [(0, 134, qY100)], []⟩)) .no)) .no)), [.obj 134 qY100 qY100 []], [(.int .i64)], [.tmp 2]⟩
noncomputable def ir_walker__para_r := ir_walker__para_rRun.F
noncomputable def ir_walker__para_rEnt : Nat × Go.Lf.Entry := (73, ⟨[.obj 134 qY100 qY100 []], [(.int .i64)], ir_walker__para_r⟩)
theorem ir_walker__para_r_ok : Go.Lf.EntryOk Go.Proofs.Tryd.prog GG 73 ir_walker__para_rEnt.2 := Go.Lf.run_ok ir_walker__para_rRun Go.Proofs.Tryd.f73 (by kernel_rfl) ⟨TysR_ok, Go.Lf.FnsOk.look .nil, Go.Lf.IpsOk.look .nil, TysREq_ok, Go.Lf.FxsOk.look .nil⟩ (by kernel_rfl) (by kernel_rfl) (by kernel_rfl) (by kernel_rfl) (by kernel_rfl) (by kernel_rfl) (by kernel_rfl)
noncomputable def ir_walker__push_rRun : Go.Lf.RunS := ⟨⟨20, TysR, [], [], [], [], [], TysREq, [], some 4000⟩, (Go.Proofs.Tryd.f74.body).getD .skip, (.seq .no (.seq (.draw 9) .no)), [.obj 134 qY100 qY100 [], .val qY13], [], []⟩
noncomputable def ir_walker__push_r := ir_walker__push_rRun.F
noncomputable def ir_walker__push_rEnt : Nat × Go.Lf.Entry := (74, ⟨[.obj 134 qY100 qY100 [], .val qY13], [], ir_walker__push_r⟩)
theorem ir_walker__push_r_ok : Go.Lf.EntryOk Go.Proofs.Tryd.prog GG 74 ir_walker__push_rEnt.2 := Go.Lf.run_ok ir_walker__push_rRun Go.Proofs.Tryd.f74 (by kernel_rfl) ⟨TysR_ok, Go.Lf.FnsOk.look .nil, Go.Lf.IpsOk.look .nil, TysREq_ok, Go.Lf.FxsOk.look .nil⟩ (by kernel_rfl) (by kernel_rfl) (by kernel_rfl) (by kernel_rfl) (by kernel_rfl) (by kernel_rfl) (by kernel_rfl)
noncomputable def ir_walker__top_rCtx : Go.Lf.Ctx := ⟨17, TysR, [], [], [], [], [], TysREq, [], some 4000⟩
noncomputable def ir_walker__top_rCode : Go.Code := (Go.Proofs.Tryd.f76.body).getD .skip
def ir_walker__top_rAnn : Go.Lf.Ann := (.seq .no (.seq .no (.seq (.draw 10) .no)))
noncomputable def ir_walker__top_rP (a0 : qT90 × qT3) : Option (Option Nat × (qT90 × qT3)) :=
 bif (decide ((a0.2.1 : Int) = (0 : Int))) then some ((none : Option (Nat)), a0)
 else ((Go.Lf.chk (((((((((((((((((((((((((((0 : Nat) + (1 : Nat)) + (1 : Nat)) + (1 : Nat)) + (1 : Nat)) + (1 : Nat)) + (1 : Nat)) + (1 : Nat)) + (1 : Nat)) + (1 : Nat)) + (1 : Nat)) + (1 : Nat)) + (1 : Nat)) + (1 : Nat)) + (1 : Nat)) + (1 : Nat)) + (1 : Nat)) + (1 : Nat)) + (1 : Nat)) + (1 : Nat)) + (1 : Nat)) + (1 : Nat)) + (1 : Nat)) + (1 : Nat)) + (1 : Nat)) + (1 : Nat)) + (1 : Nat)) (Go.IntKind.wrap .i64 (a0.2.1 - (1 : Int))))).bind fun r1 =>
 some ((some r1), a0)
theorem ir_walker__top_r_eq (a0 : qT90 × qT3) : Go.Lf.ipE ir_walker__top_rCtx ir_walker__top_rCode ir_walker__top_rAnn 134 qY100 [] [.i, .l] 0 5 2 a0 = ir_walker__top_rP a0 := by kernel_rfl
noncomputable def ir_walker__top_r (a0 : qT90 × qT3) : Option (Option Nat) := (ir_walker__top_rP a0).map (·.1)
theorem ir_walker__top_r_same (a0 : qT90 × qT3) : Go.Lf.Same a0 (ir_walker__top_rP a0) := by
  unfold ir_walker__top_rP
  repeat' (first | exact Go.Lf.Same.some | exact Go.Lf.Same.none | refine Go.Lf.Same.cond _ ?_ ?_ | refine Go.Lf.Same.bind _ (fun _ => ?_))
noncomputable def ir_walker__top_rIp : Nat × Go.Lf.Ip := (76, ⟨134, qY100, [], [.i, .l], 0, 5, fun z => ir_walker__top_r z⟩)
theorem ir_walker__top_r_ok : Go.Lf.IpOk Go.Proofs.Tryd.prog GG 76 ir_walker__top_rIp.2 :=
  Go.Lf.ip_ok (c := ir_walker__top_rCtx) (code := ir_walker__top_rCode) (an := ir_walker__top_rAnn) (slot := 2) (fn := Go.Proofs.Tryd.f76) (by kernel_rfl) ⟨TysR_ok, Go.Lf.FnsOk.look .nil, Go.Lf.IpsOk.look .nil, TysREq_ok, Go.Lf.FxsOk.look .nil⟩ (by kernel_rfl) (by kernel_rfl) (by kernel_rfl) (by kernel_rfl) (by kernel_rfl) (Nat.le_of_ble_eq_true rfl) (by kernel_rfl) fun z m h => (ir_walker__top_r_eq z).trans (Go.Lf.Same.get (ir_walker__top_r_same z) h)
noncomputable def ir_walker__within_rRun : Go.Lf.RunS := ⟨⟨18, TysR, [], [], [], [], [ir_walker__top_rIp], TysREq, [], some 4000⟩, (Go.Proofs.Tryd.f75.body).getD .skip, (.seq .no (.seq .no (.seq (.join (.one .nrm ⟨[], [(0, .ref 0 [] 0)], [(4, .bool)], [(0, 134, qY100)], []⟩) .no) .no))), [.obj 134 qY100 qY100 [], .val (.int .i64)], [.bool], [.tmp 4]⟩
noncomputable def ir_walker__within_r := ir_walker__within_rRun.F
noncomputable def ir_walker__within_rEnt : Nat × Go.Lf.Entry := (75, ⟨[.obj 134 qY100 qY100 [], .val (.int .i64)], [.bool], ir_walker__within_r⟩)
theorem ir_walker__within_r_ok : Go.Lf.EntryOk Go.Proofs.Tryd.prog GG 75 ir_walker__within_rEnt.2 := Go.Lf.run_ok ir_walker__within_rRun Go.Proofs.Tryd.f75 (by kernel_rfl) ⟨TysR_ok, Go.Lf.FnsOk.look .nil, Go.Lf.IpsOk.look (.con ir_walker__top_r_ok .nil), TysREq_ok, Go.Lf.FxsOk.look .nil⟩ (by kernel_rfl) (by kernel_rfl) (by kernel_rfl) (by kernel_rfl) (by kernel_rfl) (by kernel_rfl) (by kernel_rfl)
noncomputable def ir_walker__item_rRun : Go.Lf.RunS := ⟨⟨13, TysR, [ir_walker__within_rEnt], [], [], [], [ir_walker__top_rIp], TysREq, [], some 4000⟩, (Go.Proofs.Tryd.f94.body).getD .skip, (.seq .no (.seq (.join (.one .nrm ⟨[], [(0, .ref 0 [] 0)], [(2, .bool)], [(0, 134, qY100)], []⟩) .no) .no)), [.obj 134 qY100 qY100 []], [.bool], [.tmp 2]⟩
noncomputable def ir_walker__item_r := ir_walker__item_rRun.F
noncomputable def ir_walker__item_rEnt : Nat × Go.Lf.Entry := (94, ⟨[.obj 134 qY100 qY100 []], [.bool], ir_walker__item_r⟩)
theorem ir_walker__item_r_ok : Go.Lf.EntryOk Go.Proofs.Tryd.prog GG 94 ir_walker__item_rEnt.2 := Go.Lf.run_ok ir_walker__item_rRun Go.Proofs.Tryd.f94 (by kernel_rfl) ⟨TysR_ok, Go.Lf.FnsOk.look (.con ir_walker__within_r_ok .nil), Go.Lf.IpsOk.look (.con ir_walker__top_r_ok .nil), TysREq_ok, Go.Lf.FxsOk.look .nil⟩ (by kernel_rfl) (by kernel_rfl) (by kernel_rfl) (by kernel_rfl) (by kernel_rfl) (by kernel_rfl) (by kernel_rfl)
noncomputable def ir_walker__full_rRun : Go.Lf.RunS := ⟨⟨22, TysR, [], [], [], [], [ir_walker__top_rIp], TysREq, [], some 4000⟩, (Go.Proofs.Tryd.f95.body).getD .skip, (.seq .no (.seq (.join (.one .nrm ⟨[], [(0, .ref 0 [] 0)], [(2, .bool)], [(0, 134, qY100)], []⟩) (.draw 20)) .no)), [.obj 134 qY100 qY100 []], [.bool], [.tmp 2]⟩
noncomputable def ir_walker__full_r := ir_walker__full_rRun.F
noncomputable def ir_walker__full_rEnt : Nat × Go.Lf.Entry := (95, ⟨[.obj 134 qY100 qY100 []], [.bool], ir_walker__full_r⟩)
theorem ir_walker__full_r_ok : Go.Lf.EntryOk Go.Proofs.Tryd.prog GG 95 ir_walker__full_rEnt.2 := Go.Lf.run_ok ir_walker__full_rRun Go.Proofs.Tryd.f95 (by kernel_rfl) ⟨TysR_ok, Go.Lf.FnsOk.look .nil, Go.Lf.IpsOk.look (.con ir_walker__top_r_ok .nil), TysREq_ok, Go.Lf.FxsOk.look .nil⟩ (by kernel_rfl) (by kernel_rfl) (by kernel_rfl) (by kernel_rfl) (by kernel_rfl) (by kernel_rfl) (by kernel_rfl)
noncomputable def ir_walker__block_rRun : Go.Lf.RunS := ⟨⟨137, TysR, [ir_walker__push_rEnt, ir_walker__within_rEnt, ir_walker__item_rEnt, ir_walker__full_rEnt], [], [], [], [ir_walker__top_rIp], TysREq, [], some 4000⟩, (Go.Proofs.Tryd.f77.body).getD .skip, (.seq .no (.seq .no (.seq (.join (.more .ret ⟨[], [(0, .ref 0 [] 0)], [(4, .bool)], [(0, 134, qY100)], []⟩ (.one .nrm ⟨[], [(0, .ref 0 [] 0)], [], [(0, 134, qY100)], []⟩)) (.seq .no (.seq .no (.cnd (.seq (.seq (.join (.one .nrm ⟨[], [(0, .ref 0 [] 0), (3, .ref 3 [] 0)], [(65, .bool)], [(0, 134, qY100), (3, 63, (.st qY7))], []⟩) (.soup 29)) .no) .no) (.seq .no (.cnd (.seq (.seq (.join (.one .nrm ⟨[], [(0, .ref 0 [] 0), (3, .ref 3 [] 0)], [(86, .bool)], [(0, 134, qY100), (3, 63, (.st qY7))], []⟩) .no) .no) .no) (.seq .no (.cnd .no (.seq .no (.cnd .no (.seq .no (.cnd (.seq (.seq (.join (.one .nrm ⟨[5], [(0, .ref 0 [] 0)], [(125, .bool)], [(0, 134, qY100)], [(5, 0)]⟩) .no) .no) .no) (.seq (.seq (.join (.one .nrm ⟨[], [(0, .ref 0 [] 0)], [(23, .bool)], [(0, 134, qY100)], []⟩) .no) .no) .no))))))))))))) .no))), [.obj 134 qY100 qY100 [], .val (.st qY7)], [.bool], [.tmp 4]⟩
noncomputable def ir_walker__block_r := ir_walker__block_rRun.F
noncomputable def ir_walker__block_rEnt : Nat × Go.Lf.Entry := (77, ⟨[.obj 134 qY100 qY100 [], .val (.st qY7)], [.bool], ir_walker__block_r⟩)
theorem ir_walker__block_r_ok : Go.Lf.EntryOk Go.Proofs.Tryd.prog GG 77 ir_walker__block_rEnt.2 := Go.Lf.run_ok ir_walker__block_rRun Go.Proofs.Tryd.f77 (by kernel_rfl) ⟨TysR_ok, Go.Lf.FnsOk.look (.con ir_walker__push_r_ok (.con ir_walker__within_r_ok (.con ir_walker__item_r_ok (.con ir_walker__full_r_ok .nil)))), Go.Lf.IpsOk.look (.con ir_walker__top_r_ok .nil), TysREq_ok, Go.Lf.FxsOk.look .nil⟩ (by kernel_rfl) (by kernel_rfl) (by kernel_rfl) (by kernel_rfl) (by kernel_rfl) (by kernel_rfl) (by kernel_rfl)
noncomputable def ir_walker__place_rRun : Go.Lf.RunS := ⟨⟨122, TysR, [ir_walker__para_rEnt, ir_walker__push_rEnt, ir_walker__within_rEnt, ir_walker__block_rEnt], [], [], [], [ir_walker__top_rIp], TysREq, [], some 4000⟩, (Go.Proofs.Tryd.f54.body).getD .skip, (.seq .no (.seq .no (.seq (.seq .no (.seq (.seq (.seq (.join (.more .nrm ⟨[5], [(0, .ref 0 [] 0), (3, .ref 3 [] 0)], [], [(0, 134, qY100), (3, 63, (.st qY7))], []⟩ (.more (.ext 4) ⟨[5], [(0, .ref 0 [] 0)], [], [(0, 134, qY100)], []⟩ (.more (.ext 5) ⟨[5], [(0, .ref 0 [] 0)], [], [(0, 134, qY100)], []⟩ (.more (.ext 0) ⟨[5], [(0, .ref 0 [] 0), (3, .ref 3 [] 0)], [], [(0, 134, qY100), (3, 63, (.st qY7))], []⟩ (.one .ret ⟨[], [(0, .ref 0 [] 0)], [(4, .bool)], [(0, 134, qY100)], []⟩))))) (.seq (.seq (.seq (.seq (.seq (.join (.one .nrm ⟨[5, 11], [(0, .ref 0 [] 0), (3, .ref 3 [] 0)], [(12, .bool)], [(0, 134, qY100), (3, 63, (.st qY7))], []⟩) .no) .no) (.seq (.seq (.join (.one .nrm ⟨[5, 11], [(0, .ref 0 [] 0), (3, .ref 3 [] 0)], [(16, .bool)], [(0, 134, qY100), (3, 63, (.st qY7))], []⟩) .no) .no) .no)) .no) .no) (.seq .no (.loop ⟨[5], [(0, .ref 0 [] 0), (3, .ref 3 [] 0)], [(6, (.int .i64))], [(0, 134, qY100), (3, 63, (.st qY7))], []⟩ (.more (.ext 6) ⟨[5], [(0, .ref 0 [] 0), (3, .ref 3 [] 0)], [], [(0, 134, qY100), (3, 63, (.st qY7))], []⟩ (.one .ret ⟨[], [(0, .ref 0 [] 0)], [(4, .bool)], [(0, 134, qY100)], []⟩)) (.seq .no (.seq (.seq .no (.seq (.join (.one .nrm ⟨[5, 6], [(0, .ref 0 [] 0), (3, .ref 3 [] 0)], [(49, .bool)], [(0, 134, qY100), (3, 63, (.st qY7))], []⟩) .no) .no)) .no)))))) (.seq (.seq (.seq (.join (.one .nrm ⟨[], [(0, .ref 0 [] 0), (3, .ref 3 [] 0)], [(61, .bool)], [(0, 134, qY100), (3, 63, (.st qY7))], []⟩) .no) .no) .no) .no)) (.seq (.seq (.seq (.join (.one .nrm ⟨[], [(0, .ref 0 [] 0)], [(78, .bool)], [(0, 134, qY100)], []⟩) .no) .no) .no) .no)) (.seq (.seq (.seq (.join (.one .nrm ⟨[], [(0, .ref 0 [] 0)], [(97, .bool)], [(0, 134, qY100)], []⟩) .no) .no) (.seq .no (.seq (.join (.one .nrm ⟨[], [(0, .ref 0 [] 0)], [], [(0, 134, qY100)], []⟩) .no) .no))) .no))) (.seq (.join (.one .nrm ⟨[], [(0, .ref 0 [] 0)], [(4, .bool)], [(0, 134, qY100)], []⟩) .no) .no)))), [.obj 134 qY100 qY100 [], .val (.st qY7)], [.bool], [.tmp 4]⟩
noncomputable def ir_walker__place_r := ir_walker__place_rRun.F
noncomputable def ir_walker__place_rEnt : Nat × Go.Lf.Entry := (54, ⟨[.obj 134 qY100 qY100 [], .val (.st qY7)], [.bool], ir_walker__place_r⟩)
theorem ir_walker__place_r_ok : Go.Lf.EntryOk Go.Proofs.Tryd.prog GG 54 ir_walker__place_rEnt.2 := Go.Lf.run_ok ir_walker__place_rRun Go.Proofs.Tryd.f54 (by kernel_rfl) ⟨TysR_ok, Go.Lf.FnsOk.look (.con ir_walker__para_r_ok (.con ir_walker__push_r_ok (.con ir_walker__within_r_ok (.con ir_walker__block_r_ok .nil)))), Go.Lf.IpsOk.look (.con ir_walker__top_r_ok .nil), TysREq_ok, Go.Lf.FxsOk.look .nil⟩ (by kernel_rfl) (by kernel_rfl) (by kernel_rfl) (by kernel_rfl) (by kernel_rfl) (by kernel_rfl) (by kernel_rfl)
noncomputable def ir_Check_rRun : Go.Lf.RunS := ⟨⟨69, TysR, [ir_walker__form_rEnt, ir_walker__place_rEnt], [], [], [], [], TysREq, [], some 4000⟩, (Go.Proofs.Tryd.f35.body).getD .skip, (.seq .no (.seq .no (.seq (.seq .no (.loop ⟨[14, 0, 2, 1, 15], [], [(16, (.int .i64)), (8, (.int .i64))], [], []⟩ (.one (.ext 0) ⟨[0, 2, 1], [], [(8, (.int .i64))], [], []⟩) .no)) (.seq (.seq (.join (.one .nrm ⟨[0, 2, 1], [], [(33, .bool)], [], []⟩) .no) .no) (.seq .no (.seq (.seq .no (.loop ⟨[38, 0, 39], [(11, .ref 37 [] 0)], [(40, (.int .i64))], [(37, 134, qY100)], []⟩ (.more (.ext 2) ⟨[0], [(11, .ref 37 [] 0)], [], [(37, 134, qY100)], []⟩ (.one .ret ⟨[], [], [(6, (.int .i64)), (7, (.int .i64))], [], []⟩)) (.seq .no (.seq .no (.seq (.seq .no (.seq (.seq (.join (.one .nrm ⟨[12, 38, 0, 39, 40], [(11, .ref 37 [] 0), (13, .ref 13 [] 0)], [(54, .bool)], [(37, 134, qY100), (13, 63, (.st qY7))], []⟩) .no) .no) .no)) .no))))) .no)))))), [.val (.sl (.st qY7)), .val (.int .i64), .val (.int .i64)], [(.int .i64), (.int .i64)], [.tmp 6, .tmp 7]⟩
noncomputable def ir_Check_r := ir_Check_rRun.F
noncomputable def ir_Check_rEnt : Nat × Go.Lf.Entry := (35, ⟨[.val (.sl (.st qY7)), .val (.int .i64), .val (.int .i64)], [(.int .i64), (.int .i64)], ir_Check_r⟩)
theorem ir_Check_r_ok : Go.Lf.EntryOk Go.Proofs.Tryd.prog GG 35 ir_Check_rEnt.2 := Go.Lf.run_ok ir_Check_rRun Go.Proofs.Tryd.f35 (by kernel_rfl) ⟨TysR_ok, Go.Lf.FnsOk.look (.con ir_walker__form_r_ok (.con ir_walker__place_r_ok .nil)), Go.Lf.IpsOk.look .nil, TysREq_ok, Go.Lf.FxsOk.look .nil⟩ (by kernel_rfl) (by kernel_rfl) (by kernel_rfl) (by kernel_rfl) (by kernel_rfl) (by kernel_rfl) (by kernel_rfl)
noncomputable def style_plain_rRun : Go.Lf.RunS := ⟨⟨2, TysR, [], [], [], [], [], TysREq, [], some 4000⟩, (Go.Proofs.Tryd.f78.body).getD .skip, .no, [], [qY5], [.cell 0 74]⟩
noncomputable def style_plain_r := style_plain_rRun.F
noncomputable def style_plain_rEnt : Nat × Go.Lf.Entry := (78, ⟨[], [qY5], style_plain_r⟩)
theorem style_plain_r_ok : Go.Lf.EntryOk Go.Proofs.Tryd.prog GG 78 style_plain_rEnt.2 := Go.Lf.run_ok style_plain_rRun Go.Proofs.Tryd.f78 (by kernel_rfl) ⟨TysR_ok, Go.Lf.FnsOk.look .nil, Go.Lf.IpsOk.look .nil, TysREq_ok, Go.Lf.FxsOk.look .nil⟩ (by kernel_rfl) (by kernel_rfl) (by kernel_rfl) (by kernel_rfl) (by kernel_rfl) (by kernel_rfl) (by kernel_rfl)
noncomputable def style_Then_rRun : Go.Lf.RunS := ⟨⟨32, TysR, [], [], [], [], [], TysREq, [], some 4000⟩, (Go.Proofs.Tryd.f79.body).getD .skip, (.seq .no (.seq .no (.seq (.join (.one .nrm ⟨[], [(4, .ref 4 [] 0), (5, .ref 5 [] 0)], [], [(4, 74, qY5), (5, 74, qY5)], []⟩) .no) .no))), [.val qY5, .val qY5], [qY5], [.cell 4 74]⟩
noncomputable def style_Then_r := style_Then_rRun.F
noncomputable def style_Then_rEnt : Nat × Go.Lf.Entry := (79, ⟨[.val qY5, .val qY5], [qY5], style_Then_r⟩)
theorem style_Then_r_ok : Go.Lf.EntryOk Go.Proofs.Tryd.prog GG 79 style_Then_rEnt.2 := Go.Lf.run_ok style_Then_rRun Go.Proofs.Tryd.f79 (by kernel_rfl) ⟨TysR_ok, Go.Lf.FnsOk.look .nil, Go.Lf.IpsOk.look .nil, TysREq_ok, Go.Lf.FxsOk.look .nil⟩ (by kernel_rfl) (by kernel_rfl) (by kernel_rfl) (by kernel_rfl) (by kernel_rfl) (by kernel_rfl) (by kernel_rfl)
noncomputable def style_whole_rRun (self : prodT (([.val qY15, .val (.int .i64)] : List Go.Lf.Par).map Go.Lf.Par.ty) → Option (prodT (([qY5] : List Go.Lf.Ty) ++ Go.Lf.outs [.val qY15, .val (.int .i64)]))) : Go.Lf.RunS := ⟨⟨38, TysR, [style_Find_rEnt, (55, ⟨[.val qY15, .val (.int .i64)], [qY5], self⟩), style_plain_rEnt, style_Then_rEnt], [], [], [], [], TysREq, [], some 4000⟩, (Go.Proofs.Tryd.f55.body).getD .skip, (.seq .no (.seq .no (.seq (.join (.one .nrm ⟨[1, 0], [(4, .ref 4 [] 0), (5, .ref 5 [] 0)], [], [(4, 74, qY5), (5, 74, qY5)], []⟩) (.seq .no (.seq (.join (.one .nrm ⟨[1, 0, 6], [(4, .ref 4 [] 0), (5, .ref 5 [] 0)], [(27, .bool)], [(4, 74, qY5), (5, 74, qY5)], []⟩) .no) .no))) (.seq (.draw 7) .no)))), [.val qY15, .val (.int .i64)], [qY5], [.cell 4 74]⟩
noncomputable def style_whole_r := Go.Lf.recN (fun self => (style_whole_rRun self).F) 100
noncomputable def style_whole_rEnt : Nat × Go.Lf.Entry := (55, ⟨[.val qY15, .val (.int .i64)], [qY5], style_whole_r⟩)
theorem style_whole_r_ok : Go.Lf.EntryOk Go.Proofs.Tryd.prog GG 55 style_whole_rEnt.2 := Go.Lf.recN_ok (ps := [.val qY15, .val (.int .i64)]) (rs := [qY5]) Go.Proofs.Tryd.f55 (by kernel_rfl) (by kernel_rfl) (by kernel_rfl) (by kernel_rfl) (fun self ih => Go.Lf.run_ok (style_whole_rRun self) Go.Proofs.Tryd.f55 (by kernel_rfl) ⟨TysR_ok, Go.Lf.FnsOk.look (.con style_Find_r_ok (.cons ih (.con style_plain_r_ok (.con style_Then_r_ok .nil)))), Go.Lf.IpsOk.look .nil, TysREq_ok, Go.Lf.FxsOk.look .nil⟩ (by kernel_rfl) (by kernel_rfl) (by kernel_rfl) (by kernel_rfl) (by kernel_rfl) (by kernel_rfl) (by kernel_rfl)) 100
noncomputable def style_Whole_rRun : Go.Lf.RunS := ⟨⟨31, TysR, [style_Check_rEnt, style_Find_rEnt, style_whole_rEnt], [10], [], [], [], TysREq, [], some 4000⟩, (Go.Proofs.Tryd.f36.body).getD .skip, .no, [.val qY15, .val .str], [qY5, (.int .i64)], [.cell 4 74, .tmp 5]⟩
noncomputable def style_Whole_r := style_Whole_rRun.F
noncomputable def style_Whole_rEnt : Nat × Go.Lf.Entry := (36, ⟨[.val qY15, .val .str], [qY5, (.int .i64)], style_Whole_r⟩)
theorem style_Whole_r_ok : Go.Lf.EntryOk Go.Proofs.Tryd.prog GG 36 style_Whole_rEnt.2 := Go.Lf.run_ok style_Whole_rRun Go.Proofs.Tryd.f36 (by kernel_rfl) ⟨TysR_ok, Go.Lf.FnsOk.look (.con style_Check_r_ok (.con style_Find_r_ok (.con style_whole_r_ok .nil))), Go.Lf.IpsOk.look .nil, TysREq_ok, Go.Lf.FxsOk.look .nil⟩ (by kernel_rfl) (by kernel_rfl) (by kernel_rfl) (by kernel_rfl) (by kernel_rfl) (by kernel_rfl) (by kernel_rfl)
noncomputable def layout_marker__waiting_rRun : Go.Lf.RunS := ⟨⟨8, TysR, [], [], [], [], [], TysREq, [], some 4000⟩, (Go.Proofs.Tryd.f56.body).getD .skip, .no, [.val (.ptr (.st qY4))], [.bool], [.tmp 2]⟩
noncomputable def layout_marker__waiting_r := layout_marker__waiting_rRun.F
noncomputable def layout_marker__waiting_rEnt : Nat × Go.Lf.Entry := (56, ⟨[.val (.ptr (.st qY4))], [.bool], layout_marker__waiting_r⟩)
theorem layout_marker__waiting_r_ok : Go.Lf.EntryOk Go.Proofs.Tryd.prog GG 56 layout_marker__waiting_rEnt.2 := Go.Lf.run_ok layout_marker__waiting_rRun Go.Proofs.Tryd.f56 (by kernel_rfl) ⟨TysR_ok, Go.Lf.FnsOk.look .nil, Go.Lf.IpsOk.look .nil, TysREq_ok, Go.Lf.FxsOk.look .nil⟩ (by kernel_rfl) (by kernel_rfl) (by kernel_rfl) (by kernel_rfl) (by kernel_rfl) (by kernel_rfl) (by kernel_rfl)
noncomputable def layout_setter__tell_rRun : Go.Lf.RunS := ⟨⟨27, TysR, [], [20], [], [(20, qY19)], [], TysREq, [], some 4000⟩, (Go.Proofs.Tryd.f57.body).getD .skip, .no, [.obj 104 qY102 qY102 [], .val (.sl (.st qY14))], [], []⟩
noncomputable def layout_setter__tell_r := layout_setter__tell_rRun.F
noncomputable def layout_setter__tell_rEnt : Nat × Go.Lf.Entry := (57, ⟨[.obj 104 qY102 qY102 [], .val (.sl (.st qY14))], [], layout_setter__tell_r⟩)
theorem layout_setter__tell_r_ok : Go.Lf.EntryOk Go.Proofs.Tryd.prog GG 57 layout_setter__tell_rEnt.2 := Go.Lf.run_ok layout_setter__tell_rRun Go.Proofs.Tryd.f57 (by kernel_rfl) ⟨TysR_ok, Go.Lf.FnsOk.look .nil, Go.Lf.IpsOk.look .nil, TysREq_ok, Go.Lf.FxsOk.look .nil⟩ (by kernel_rfl) (by kernel_rfl) (by kernel_rfl) (by kernel_rfl) (by kernel_rfl) (by kernel_rfl) (by kernel_rfl)
noncomputable def layout_plain_rRun : Go.Lf.RunS := ⟨⟨2, TysR, [], [], [], [], [], TysREq, [], some 4000⟩, (Go.Proofs.Tryd.f83.body).getD .skip, .no, [], [(.st qY1)], [.cell 0 55]⟩
noncomputable def layout_plain_r := layout_plain_rRun.F
noncomputable def layout_plain_rEnt : Nat × Go.Lf.Entry := (83, ⟨[], [(.st qY1)], layout_plain_r⟩)
theorem layout_plain_r_ok : Go.Lf.EntryOk Go.Proofs.Tryd.prog GG 83 layout_plain_rEnt.2 := Go.Lf.run_ok layout_plain_rRun Go.Proofs.Tryd.f83 (by kernel_rfl) ⟨TysR_ok, Go.Lf.FnsOk.look .nil, Go.Lf.IpsOk.look .nil, TysREq_ok, Go.Lf.FxsOk.look .nil⟩ (by kernel_rfl) (by kernel_rfl) (by kernel_rfl) (by kernel_rfl) (by kernel_rfl) (by kernel_rfl) (by kernel_rfl)
noncomputable def layout_looks__top_rRun : Go.Lf.RunS := ⟨⟨19, TysR, [layout_plain_rEnt], [], [], [], [], TysREq, [], some 4000⟩, (Go.Proofs.Tryd.f61.body).getD .skip, (.seq .no (.seq .no (.seq (.draw 10) .no))), [.val (.ptr qY96)], [(.st qY1)], [.cell 2 55]⟩
noncomputable def layout_looks__top_r := layout_looks__top_rRun.F
noncomputable def layout_looks__top_rEnt : Nat × Go.Lf.Entry := (61, ⟨[.val (.ptr qY96)], [(.st qY1)], layout_looks__top_r⟩)
theorem layout_looks__top_r_ok : Go.Lf.EntryOk Go.Proofs.Tryd.prog GG 61 layout_looks__top_rEnt.2 := Go.Lf.run_ok layout_looks__top_rRun Go.Proofs.Tryd.f61 (by kernel_rfl) ⟨TysR_ok, Go.Lf.FnsOk.look (.con layout_plain_r_ok .nil), Go.Lf.IpsOk.look .nil, TysREq_ok, Go.Lf.FxsOk.look .nil⟩ (by kernel_rfl) (by kernel_rfl) (by kernel_rfl) (by kernel_rfl) (by kernel_rfl) (by kernel_rfl) (by kernel_rfl)
noncomputable def style_Apply_rRun : Go.Lf.RunS := ⟨⟨21, TysR, [], [], [], [], [], TysREq, [], some 4000⟩, (Go.Proofs.Tryd.f80.body).getD .skip, (.seq .no (.seq .no (.seq (.join (.one .nrm ⟨[], [(4, .ref 4 [] 0), (2, .ref 2 [] 0)], [], [(4, 55, (.st qY1)), (2, 55, (.st qY1))], []⟩) .no) .no))), [.val (.st qY1), .val qY5], [(.st qY1)], [.cell 4 55]⟩
noncomputable def style_Apply_r := style_Apply_rRun.F
noncomputable def style_Apply_rEnt : Nat × Go.Lf.Entry := (80, ⟨[.val (.st qY1), .val qY5], [(.st qY1)], style_Apply_r⟩)
theorem style_Apply_r_ok : Go.Lf.EntryOk Go.Proofs.Tryd.prog GG 80 style_Apply_rEnt.2 := Go.Lf.run_ok style_Apply_rRun Go.Proofs.Tryd.f80 (by kernel_rfl) ⟨TysR_ok, Go.Lf.FnsOk.look .nil, Go.Lf.IpsOk.look .nil, TysREq_ok, Go.Lf.FxsOk.look .nil⟩ (by kernel_rfl) (by kernel_rfl) (by kernel_rfl) (by kernel_rfl) (by kernel_rfl) (by kernel_rfl) (by kernel_rfl)
noncomputable def layout_setter__styled_rRun : Go.Lf.RunS := ⟨⟨23, TysR, [layout_looks__top_rEnt, style_Apply_rEnt], [], [], [], [], TysREq, [], some 4000⟩, (Go.Proofs.Tryd.f59.body).getD .skip, (.seq .no (.seq .no (.seq (.draw 12) .no))), [.obj 104 qY102 qY102 [], .val (.int .i64)], [(.st qY1)], [.cell 4 55]⟩
noncomputable def layout_setter__styled_r := layout_setter__styled_rRun.F
noncomputable def layout_setter__styled_rEnt : Nat × Go.Lf.Entry := (59, ⟨[.obj 104 qY102 qY102 [], .val (.int .i64)], [(.st qY1)], layout_setter__styled_r⟩)
theorem layout_setter__styled_r_ok : Go.Lf.EntryOk Go.Proofs.Tryd.prog GG 59 layout_setter__styled_rEnt.2 := Go.Lf.run_ok layout_setter__styled_rRun Go.Proofs.Tryd.f59 (by kernel_rfl) ⟨TysR_ok, Go.Lf.FnsOk.look (.con layout_looks__top_r_ok (.con style_Apply_r_ok .nil)), Go.Lf.IpsOk.look .nil, TysREq_ok, Go.Lf.FxsOk.look .nil⟩ (by kernel_rfl) (by kernel_rfl) (by kernel_rfl) (by kernel_rfl) (by kernel_rfl) (by kernel_rfl) (by kernel_rfl)
noncomputable def layout_looks__lay_rRun : Go.Lf.RunS := ⟨⟨31, TysR, [], [], [], [], [], TysREq, [], some 4000⟩, (Go.Proofs.Tryd.f58.body).getD .skip, (.seq .no (.seq (.perm [0, 1, 2, 3, 4, 5, 6, 7, 8, 9, 10, 11, 12, 13, 14, 16, 17, 15, 18, 19] (.soup 17)) .no)), [.obj 104 qY102 qY102 [.i, .r, .l], .val (.st qY1), .val (.int .i64)], [], []⟩
noncomputable def layout_looks__lay_r := layout_looks__lay_rRun.F
noncomputable def layout_looks__lay_rEnt : Nat × Go.Lf.Entry := (58, ⟨[.obj 104 qY102 qY102 [.i, .r, .l], .val (.st qY1), .val (.int .i64)], [], layout_looks__lay_r⟩)
theorem layout_looks__lay_r_ok : Go.Lf.EntryOk Go.Proofs.Tryd.prog GG 58 layout_looks__lay_rEnt.2 := Go.Lf.run_ok layout_looks__lay_rRun Go.Proofs.Tryd.f58 (by kernel_rfl) ⟨TysR_ok, Go.Lf.FnsOk.look .nil, Go.Lf.IpsOk.look .nil, TysREq_ok, Go.Lf.FxsOk.look .nil⟩ (by kernel_rfl) (by kernel_rfl) (by kernel_rfl) (by kernel_rfl) (by kernel_rfl) (by kernel_rfl) (by kernel_rfl)
noncomputable def text_Width_rRun : Go.Lf.RunS := ⟨⟨70, TysR, [], [], [], [], [], TysREq, [], some 4000⟩, (Go.Proofs.Tryd.f82.body).getD .skip, .seq .no (.seq .no (.seq .no (.seq (.seq .no (.loop ⟨[0, 55], [], [(56, .int .i64)], [], []⟩ (.more .ret ⟨[], [], [(2, .int .i64)], [], []⟩ (.one (.ext 6) ⟨[], [], [], [], []⟩)) .no)) .no))), [.val (.int .i32)], [(.int .i64)], [.tmp 2]⟩
noncomputable def text_Width_r := text_Width_rRun.F
noncomputable def text_Width_rEnt : Nat × Go.Lf.Entry := (82, ⟨[.val (.int .i32)], [(.int .i64)], text_Width_r⟩)
theorem text_Width_r_ok : Go.Lf.EntryOk Go.Proofs.Tryd.prog GG 82 text_Width_rEnt.2 := Go.Lf.run_ok text_Width_rRun Go.Proofs.Tryd.f82 (by kernel_rfl) ⟨TysR_ok, Go.Lf.FnsOk.look .nil, Go.Lf.IpsOk.look .nil, TysREq_ok, Go.Lf.FxsOk.look .nil⟩ (by kernel_rfl) (by kernel_rfl) (by kernel_rfl) (by kernel_rfl) (by kernel_rfl) (by kernel_rfl) (by kernel_rfl)
noncomputable def text_Cells_rRun : Go.Lf.RunS := ⟨⟨61, TysR, [utf8_DecodeEnt, text_Width_rEnt], [], [], [(3, (.mr 141 (.st (.pr .str qY1))))], [], TysREq, [], some 4000⟩, (Go.Proofs.Tryd.f60.body).getD .skip, (.seq .no (.seq .no (.seq (.seq .no (.loop ⟨[0], [], [(4, (.int .i64)), (3, (.mr 141 (.st (.pr .str qY1))))], [], []⟩ (.one (.ext 0) ⟨[], [], [(3, (.mr 141 (.st (.pr .str qY1))))], [], []⟩) (.seq .no (.seq .no (.seq .no (.seq (.join (.one .nrm ⟨[0, 6, 4], [], [(3, (.mr 141 (.st (.pr .str qY1))))], [], []⟩) (.seq (.join (.one .nrm ⟨[0, 6, 4, 7], [], [(27, .bool), (3, (.mr 141 (.st (.pr .str qY1))))], [], []⟩) .no) (.cnd (.draw 16) .no))) .no)))))) .no))), [.val .str], [(.sl (.st (.pr .str qY1)))], [.tmp 2]⟩
noncomputable def text_Cells_r := text_Cells_rRun.F
noncomputable def text_Cells_rEnt : Nat × Go.Lf.Entry := (60, ⟨[.val .str], [(.sl (.st (.pr .str qY1)))], text_Cells_r⟩)
theorem text_Cells_r_ok : Go.Lf.EntryOk Go.Proofs.Tryd.prog GG 60 text_Cells_rEnt.2 := Go.Lf.run_ok text_Cells_rRun Go.Proofs.Tryd.f60 (by kernel_rfl) ⟨TysR_ok, Go.Lf.FnsOk.look (.con utf8_Decode_ok (.con text_Width_r_ok .nil)), Go.Lf.IpsOk.look .nil, TysREq_ok, Go.Lf.FxsOk.look .nil⟩ (by kernel_rfl) (by kernel_rfl) (by kernel_rfl) (by kernel_rfl) (by kernel_rfl) (by kernel_rfl) (by kernel_rfl)
noncomputable def table_kind_rRun : Go.Lf.RunS := ⟨⟨11, TysR, [], [], [], [], [], TysREq, [], some 4000⟩, (Go.Proofs.Tryd.f100.body).getD .skip, .no, [.val (.st qY14)], [(.int .i64)], [.tmp 2]⟩
noncomputable def table_kind_r := table_kind_rRun.F
noncomputable def table_kind_rEnt : Nat × Go.Lf.Entry := (100, ⟨[.val (.st qY14)], [(.int .i64)], table_kind_r⟩)
theorem table_kind_r_ok : Go.Lf.EntryOk Go.Proofs.Tryd.prog GG 100 table_kind_rEnt.2 := Go.Lf.run_ok table_kind_rRun Go.Proofs.Tryd.f100 (by kernel_rfl) ⟨TysR_ok, Go.Lf.FnsOk.look .nil, Go.Lf.IpsOk.look .nil, TysREq_ok, Go.Lf.FxsOk.look .nil⟩ (by kernel_rfl) (by kernel_rfl) (by kernel_rfl) (by kernel_rfl) (by kernel_rfl) (by kernel_rfl) (by kernel_rfl)
noncomputable def table_check_rRun : Go.Lf.RunS := ⟨⟨30, TysR, [table_kind_rEnt], [], [], [], [], TysREq, [], some 4000⟩, (Go.Proofs.Tryd.f97.body).getD .skip, (.seq .no (.seq (.seq .no (.loop ⟨[5, 6], [], [(7, (.int .i64))], [], []⟩ (.more (.ext 0) ⟨[], [], [], [], []⟩ (.one .ret ⟨[], [], [(2, (.int .i64))], [], []⟩)) (.seq .no (.seq .no (.seq (.seq .no (.seq (.join (.one .nrm ⟨[5, 6, 7], [], [(28, .bool)], [], []⟩) .no) .no)) .no))))) .no)), [.val (.sl (.st qY14))], [(.int .i64)], [.tmp 2]⟩
noncomputable def table_check_r := table_check_rRun.F
noncomputable def table_check_rEnt : Nat × Go.Lf.Entry := (97, ⟨[.val (.sl (.st qY14))], [(.int .i64)], table_check_r⟩)
theorem table_check_r_ok : Go.Lf.EntryOk Go.Proofs.Tryd.prog GG 97 table_check_rEnt.2 := Go.Lf.run_ok table_check_rRun Go.Proofs.Tryd.f97 (by kernel_rfl) ⟨TysR_ok, Go.Lf.FnsOk.look (.con table_kind_r_ok .nil), Go.Lf.IpsOk.look .nil, TysREq_ok, Go.Lf.FxsOk.look .nil⟩ (by kernel_rfl) (by kernel_rfl) (by kernel_rfl) (by kernel_rfl) (by kernel_rfl) (by kernel_rfl) (by kernel_rfl)
noncomputable def table_filler__end_rRun : Go.Lf.RunS := ⟨⟨24, TysR, [], [6], [], [(6, qY19)], [], TysREq, [], some 4000⟩, (Go.Proofs.Tryd.f102.body).getD .skip, (.seq (.soup 10) .no), [.obj 187 (.st qY51) (.st qY51) []], [], []⟩
noncomputable def table_filler__end_r := table_filler__end_rRun.F
noncomputable def table_filler__end_rEnt : Nat × Go.Lf.Entry := (102, ⟨[.obj 187 (.st qY51) (.st qY51) []], [], table_filler__end_r⟩)
theorem table_filler__end_r_ok : Go.Lf.EntryOk Go.Proofs.Tryd.prog GG 102 table_filler__end_rEnt.2 := Go.Lf.run_ok table_filler__end_rRun Go.Proofs.Tryd.f102 (by kernel_rfl) ⟨TysR_ok, Go.Lf.FnsOk.look .nil, Go.Lf.IpsOk.look .nil, TysREq_ok, Go.Lf.FxsOk.look .nil⟩ (by kernel_rfl) (by kernel_rfl) (by kernel_rfl) (by kernel_rfl) (by kernel_rfl) (by kernel_rfl) (by kernel_rfl)
noncomputable def table_filler__put_rRun : Go.Lf.RunS := ⟨⟨23, TysR, [], [8], [], [(8, (.rw 57 (.st qY14)))], [], TysREq, [], some 4000⟩, (Go.Proofs.Tryd.f110.body).getD .skip, (.seq .no (.seq (.soup 7) (.draw 9))), [.obj 187 (.st qY51) (.st qY51) [], .val (.st qY14)], [], []⟩
noncomputable def table_filler__put_r := table_filler__put_rRun.F
noncomputable def table_filler__put_rEnt : Nat × Go.Lf.Entry := (110, ⟨[.obj 187 (.st qY51) (.st qY51) [], .val (.st qY14)], [], table_filler__put_r⟩)
theorem table_filler__put_r_ok : Go.Lf.EntryOk Go.Proofs.Tryd.prog GG 110 table_filler__put_rEnt.2 := Go.Lf.run_ok table_filler__put_rRun Go.Proofs.Tryd.f110 (by kernel_rfl) ⟨TysR_ok, Go.Lf.FnsOk.look .nil, Go.Lf.IpsOk.look .nil, TysREq_ok, Go.Lf.FxsOk.look .nil⟩ (by kernel_rfl) (by kernel_rfl) (by kernel_rfl) (by kernel_rfl) (by kernel_rfl) (by kernel_rfl) (by kernel_rfl)
noncomputable def table_filler__putD_rRun : Go.Lf.RunS := ⟨⟨23, TysR, [], [8], [], [(8, (.rw 57 (.st qY14)))], [], TysREq, [], some 4000⟩, (Go.Proofs.Tryd.f110.body).getD .skip, (.seq .no (.seq (.soup 7) (.draw 9))), [.obj 187 (.st qY52) (.st qY52) [], .val (.st qY14)], [], []⟩
noncomputable def table_filler__putD_r := table_filler__putD_rRun.F
noncomputable def table_filler__putD_rEnt : Nat × Go.Lf.Entry := (110, ⟨[.obj 187 (.st qY52) (.st qY52) [], .val (.st qY14)], [], table_filler__putD_r⟩)
theorem table_filler__putD_r_ok : Go.Lf.EntryOk Go.Proofs.Tryd.prog GG 110 table_filler__putD_rEnt.2 := Go.Lf.run_ok table_filler__putD_rRun Go.Proofs.Tryd.f110 (by kernel_rfl) ⟨TysR_ok, Go.Lf.FnsOk.look .nil, Go.Lf.IpsOk.look .nil, TysREq_ok, Go.Lf.FxsOk.look .nil⟩ (by kernel_rfl) (by kernel_rfl) (by kernel_rfl) (by kernel_rfl) (by kernel_rfl) (by kernel_rfl) (by kernel_rfl)
noncomputable def table_filler__tabbed_rRun : Go.Lf.RunS := ⟨⟨34, TysR, [table_filler__end_rEnt, table_filler__put_rEnt], [], [], [], [], TysREq, [], some 4000⟩, (Go.Proofs.Tryd.f111.body).getD .skip, (.seq .no (.seq .no (.seq .no (.seq .no (.seq .no (.loop ⟨[4], [(3, .ref 3 [] 0), (0, .ref 0 [] 0)], [], [(3, 57, (.st qY14)), (0, 187, (.st qY51))], []⟩ (.one (.ext 0) ⟨[], [(0, .ref 0 [] 0)], [], [(0, 187, (.st qY51))], []⟩) .no)))))), [.obj 187 (.st qY51) (.st qY51) [], .val (.st qY14)], [], []⟩
noncomputable def table_filler__tabbed_r := table_filler__tabbed_rRun.F
noncomputable def table_filler__tabbed_rEnt : Nat × Go.Lf.Entry := (111, ⟨[.obj 187 (.st qY51) (.st qY51) [], .val (.st qY14)], [], table_filler__tabbed_r⟩)
theorem table_filler__tabbed_r_ok : Go.Lf.EntryOk Go.Proofs.Tryd.prog GG 111 table_filler__tabbed_rEnt.2 := Go.Lf.run_ok table_filler__tabbed_rRun Go.Proofs.Tryd.f111 (by kernel_rfl) ⟨TysR_ok, Go.Lf.FnsOk.look (.con table_filler__end_r_ok (.con table_filler__put_r_ok .nil)), Go.Lf.IpsOk.look .nil, TysREq_ok, Go.Lf.FxsOk.look .nil⟩ (by kernel_rfl) (by kernel_rfl) (by kernel_rfl) (by kernel_rfl) (by kernel_rfl) (by kernel_rfl) (by kernel_rfl)
noncomputable def table_filler__leap_rRun : Go.Lf.RunS := ⟨⟨12, TysR, [table_kind_rEnt, table_filler__end_rEnt, table_filler__tabbed_rEnt], [], [], [], [], TysREq, [], some 4000⟩, (Go.Proofs.Tryd.f101.body).getD .skip, .no, [.obj 187 (.st qY51) (.st qY51) [], .val (.st qY14)], [], []⟩
noncomputable def table_filler__leap_r := table_filler__leap_rRun.F
noncomputable def table_filler__leap_rEnt : Nat × Go.Lf.Entry := (101, ⟨[.obj 187 (.st qY51) (.st qY51) [], .val (.st qY14)], [], table_filler__leap_r⟩)
theorem table_filler__leap_r_ok : Go.Lf.EntryOk Go.Proofs.Tryd.prog GG 101 table_filler__leap_rEnt.2 := Go.Lf.run_ok table_filler__leap_rRun Go.Proofs.Tryd.f101 (by kernel_rfl) ⟨TysR_ok, Go.Lf.FnsOk.look (.con table_kind_r_ok (.con table_filler__end_r_ok (.con table_filler__tabbed_r_ok .nil))), Go.Lf.IpsOk.look .nil, TysREq_ok, Go.Lf.FxsOk.look .nil⟩ (by kernel_rfl) (by kernel_rfl) (by kernel_rfl) (by kernel_rfl) (by kernel_rfl) (by kernel_rfl) (by kernel_rfl)
noncomputable def table_Wide_rRun : Go.Lf.RunS := ⟨⟨18, TysR, [], [], [], [], [], TysREq, [], some 4000⟩, (Go.Proofs.Tryd.f107.body).getD .skip, (.seq .no (.seq .no (.seq (.seq .no (.loop ⟨[6, 7], [], [(8, (.int .i64)), (3, (.int .i64))], [], []⟩ (.one (.ext 0) ⟨[], [], [(3, (.int .i64))], [], []⟩) .no)) .no))), [.val (.sl (.st qY14))], [(.int .i64)], [.tmp 2]⟩
noncomputable def table_Wide_r := table_Wide_rRun.F
noncomputable def table_Wide_rEnt : Nat × Go.Lf.Entry := (107, ⟨[.val (.sl (.st qY14))], [(.int .i64)], table_Wide_r⟩)
theorem table_Wide_r_ok : Go.Lf.EntryOk Go.Proofs.Tryd.prog GG 107 table_Wide_rEnt.2 := Go.Lf.run_ok table_Wide_rRun Go.Proofs.Tryd.f107 (by kernel_rfl) ⟨TysR_ok, Go.Lf.FnsOk.look .nil, Go.Lf.IpsOk.look .nil, TysREq_ok, Go.Lf.FxsOk.look .nil⟩ (by kernel_rfl) (by kernel_rfl) (by kernel_rfl) (by kernel_rfl) (by kernel_rfl) (by kernel_rfl) (by kernel_rfl)
noncomputable def table_filler__word_rRun : Go.Lf.RunS := ⟨⟨79, TysR, [table_filler__end_rEnt, table_Wide_rEnt, table_filler__put_rEnt], [], [], [], [], TysREq, [(39, table_filler__putD_rEnt)], some 4000⟩, (Go.Proofs.Tryd.f99.body).getD .skip, (.seq (.seq (.draw 18) (.cnd (.seq (.seq .no (.loop ⟨[32], [(0, .ref 0 [] 0)], [(33, (.int .i64)), (31, (.mr 57 (.st qY14)))], [(0, 187, (.st qY52))], []⟩ (.one (.ext 0) ⟨[], [(0, .ref 0 [] 0)], [], [(0, 187, (.st qY52))], []⟩) .no)) .no) .no)) (.seq .no (.seq (.join (.one .nrm ⟨[1], [(0, .ref 0 [] 0)], [], [(0, 187, (.st qY51))], []⟩) .no) (.seq .no (.loop ⟨[55, 56], [(0, .ref 0 [] 0)], [(57, (.int .i64))], [(0, 187, (.st qY51))], []⟩ (.one (.ext 2) ⟨[], [(0, .ref 0 [] 0)], [], [(0, 187, (.st qY51))], []⟩) (.seq .no (.seq .no (.seq (.seq .no (.seq (.join (.one .nrm ⟨[55, 56, 57], [(0, .ref 0 [] 0), (7, .ref 7 [] 0)], [], [(0, 187, (.st qY51)), (7, 57, (.st qY14))], []⟩) (.seq (.draw 12) .no)) .no)) .no)))))))), [.obj 187 (.st qY51) (.st qY51) [], .val (.sl (.st qY14))], [], []⟩
noncomputable def table_filler__word_r := table_filler__word_rRun.F
noncomputable def table_filler__word_rEnt : Nat × Go.Lf.Entry := (99, ⟨[.obj 187 (.st qY51) (.st qY51) [], .val (.sl (.st qY14))], [], table_filler__word_r⟩)
theorem table_filler__word_r_ok : Go.Lf.EntryOk Go.Proofs.Tryd.prog GG 99 table_filler__word_rEnt.2 := Go.Lf.run_ok table_filler__word_rRun Go.Proofs.Tryd.f99 (by kernel_rfl) ⟨TysR_ok, Go.Lf.FnsOk.look (.con table_filler__end_r_ok (.con table_Wide_r_ok (.con table_filler__put_r_ok .nil))), Go.Lf.IpsOk.look .nil, TysREq_ok, Go.Lf.FxsOk.look (.cons table_filler__putD_r_ok .nil)⟩ (by kernel_rfl) (by kernel_rfl) (by kernel_rfl) (by kernel_rfl) (by kernel_rfl) (by kernel_rfl) (by kernel_rfl)
noncomputable def table_Fill_1_rRun : Go.Lf.RunS := ⟨⟨8, TysR, [table_filler__word_rEnt], [], [], [], [], TysREq, [], some 4000⟩, (Go.Proofs.Tryd.f98.body).getD .skip, .no, [.obj 47 (.rw 57 (.st qY14)) (.rw 57 (.st qY14)) [], .obj 187 (.st qY51) (.st qY51) [] .cel], [], []⟩
noncomputable def table_Fill_1_r := table_Fill_1_rRun.F
noncomputable def table_Fill_1_rEnt : Nat × Go.Lf.Entry := (98, ⟨[.obj 47 (.rw 57 (.st qY14)) (.rw 57 (.st qY14)) [], .obj 187 (.st qY51) (.st qY51) [] .cel], [], table_Fill_1_r⟩)
theorem table_Fill_1_r_ok : Go.Lf.EntryOk Go.Proofs.Tryd.prog GG 98 table_Fill_1_rEnt.2 := Go.Lf.run_ok table_Fill_1_rRun Go.Proofs.Tryd.f98 (by kernel_rfl) ⟨TysR_ok, Go.Lf.FnsOk.look (.con table_filler__word_r_ok .nil), Go.Lf.IpsOk.look .nil, TysREq_ok, Go.Lf.FxsOk.look .nil⟩ (by kernel_rfl) (by kernel_rfl) (by kernel_rfl) (by kernel_rfl) (by kernel_rfl) (by kernel_rfl) (by kernel_rfl)
noncomputable def table_Fill_rRun : Go.Lf.RunS := ⟨⟨95, TysR, [table_check_rEnt, table_Fill_1_rEnt, table_kind_rEnt, table_filler__leap_rEnt, table_filler__end_rEnt], [4, 49, 94], [], [(4, qY19), (7, .bn), (8, (.rw 57 (.st qY14))), (24, (.st qY51)), (49, (.rw 57 (.st qY14))), (72, (.mr 57 (.st qY14))), (94, qY19)], [], TysREq, [], some 4000⟩, (Go.Proofs.Tryd.f84.body).getD .skip, (.seq .no (.seq (.seq (.join (.one .nrm ⟨[1, 0], [], [(17, .bool)], [], []⟩) .no) .no) (.seq .no (.seq .no (.seq .no (.seq .no (.seq .no (.seq (.seq .no (.loop ⟨[1, 27, 28], [(8, .ref 8 [] 0), (7, .cel 25 [] 0), (9, .clo 98 0 [(false, 8, [], 0), (true, 25, [], 0)])], [(29, (.int .i64))], [(8, 47, (.rw 57 (.st qY14))), (25, 187, (.st qY51))], []⟩ (.one (.ext 0) ⟨[], [(7, .cel 25 [] 0), (9, .clo 98 0 [(false, 8, [], 0), (true, 25, [], 0)])], [], [(25, 187, (.st qY51)), (8, 47, (.rw 57 (.st qY14)))], []⟩) (.seq .no (.seq .no (.seq (.join (.one .nrm ⟨[1, 27, 28, 29], [(8, .ref 8 [] 0), (7, .cel 25 [] 0), (9, .clo 98 0 [(false, 8, [], 0), (true, 25, [], 0)])], [], [(8, 47, (.rw 57 (.st qY14))), (25, 187, (.st qY51))], []⟩) (.seq .no (.seq .no (.seq (.join (.more .nrm ⟨[1, 27, 28, 29], [(8, .ref 8 [] 0), (7, .cel 25 [] 0), (9, .clo 98 0 [(false, 8, [], 0), (true, 25, [], 0)]), (11, .ref 11 [] 0)], [], [(8, 47, (.rw 57 (.st qY14))), (25, 187, (.st qY51)), (11, 57, (.st qY14))], []⟩ (.more (.ext 2) ⟨[1, 27, 28, 29], [(8, .ref 8 [] 0), (7, .cel 25 [] 0), (9, .clo 98 0 [(false, 8, [], 0), (true, 25, [], 0)])], [], [(8, 47, (.rw 57 (.st qY14))), (25, 187, (.st qY51))], []⟩ (.one (.ext 1) ⟨[1, 27, 28, 29], [(8, .ref 8 [] 0), (7, .cel 25 [] 0), (9, .clo 98 0 [(false, 8, [], 0), (true, 25, [], 0)])], [], [(8, 47, (.rw 57 (.st qY14))), (25, 187, (.st qY51))], []⟩))) (.seq (.seq .no (.seq (.seq (.join (.one .nrm ⟨[1, 27, 28, 29], [(8, .ref 8 [] 0), (7, .cel 25 [] 0), (9, .clo 98 0 [(false, 8, [], 0), (true, 25, [], 0)]), (11, .ref 11 [] 0)], [], [(8, 47, (.rw 57 (.st qY14))), (25, 187, (.st qY51)), (11, 57, (.st qY14))], []⟩) .no) .no) .no)) (.seq (.join (.one .nrm ⟨[1, 27, 28, 29], [(8, .ref 8 [] 0), (7, .cel 25 [] 0), (9, .clo 98 0 [(false, 8, [], 0), (true, 25, [], 0)])], [], [(8, 47, (.rw 57 (.st qY14))), (25, 187, (.st qY51))], []⟩) (.seq .no (.seq (.join (.one .nrm ⟨[1, 27, 28, 29], [(8, .ref 8 [] 0), (7, .cel 25 [] 0), (9, .clo 98 0 [(false, 8, [], 0), (true, 25, [], 0)]), (11, .ref 11 [] 0)], [(68, .bool)], [(8, 47, (.rw 57 (.st qY14))), (25, 187, (.st qY51)), (11, 57, (.st qY14))], []⟩) .no) .no))) .no))) .no)))) .no))))) (.seq .no (.seq (.join (.one .nrm ⟨[], [(7, .cel 25 [] 0)], [], [(25, 187, (.st qY51))], []⟩) .no) .no)))))))))), [.val (.sl (.st qY14)), .val (.int .i64)], [qY19, (.int .i64)], [.tmp 4, .tmp 5]⟩
noncomputable def table_Fill_r := table_Fill_rRun.F
noncomputable def table_Fill_rEnt : Nat × Go.Lf.Entry := (84, ⟨[.val (.sl (.st qY14)), .val (.int .i64)], [qY19, (.int .i64)], table_Fill_r⟩)
theorem table_Fill_r_ok : Go.Lf.EntryOk Go.Proofs.Tryd.prog GG 84 table_Fill_rEnt.2 := Go.Lf.run_ok table_Fill_rRun Go.Proofs.Tryd.f84 (by kernel_rfl) ⟨TysR_ok, Go.Lf.FnsOk.look (.con table_check_r_ok (.con table_Fill_1_r_ok (.con table_kind_r_ok (.con table_filler__leap_r_ok (.con table_filler__end_r_ok .nil))))), Go.Lf.IpsOk.look .nil, TysREq_ok, Go.Lf.FxsOk.look .nil⟩ (by kernel_rfl) (by kernel_rfl) (by kernel_rfl) (by kernel_rfl) (by kernel_rfl) (by kernel_rfl) (by kernel_rfl)
noncomputable def layout_sign_rRun : Go.Lf.RunS := ⟨⟨6, TysR, [layout_plain_rEnt], [], [], [], [], TysREq, [], some 4000⟩, (Go.Proofs.Tryd.f103.body).getD .skip, .no, [.val .str], [(.st qY14)], [.cell 2 57]⟩
noncomputable def layout_sign_r := layout_sign_rRun.F
noncomputable def layout_sign_rEnt : Nat × Go.Lf.Entry := (103, ⟨[.val .str], [(.st qY14)], layout_sign_r⟩)
theorem layout_sign_r_ok : Go.Lf.EntryOk Go.Proofs.Tryd.prog GG 103 layout_sign_rEnt.2 := Go.Lf.run_ok layout_sign_rRun Go.Proofs.Tryd.f103 (by kernel_rfl) ⟨TysR_ok, Go.Lf.FnsOk.look (.con layout_plain_r_ok .nil), Go.Lf.IpsOk.look .nil, TysREq_ok, Go.Lf.FxsOk.look .nil⟩ (by kernel_rfl) (by kernel_rfl) (by kernel_rfl) (by kernel_rfl) (by kernel_rfl) (by kernel_rfl) (by kernel_rfl)
noncomputable def layout_padded_rRun : Go.Lf.RunS := ⟨⟨14, TysR, [layout_sign_rEnt], [0, 4, 9, 13], [], [(0, (.rw 57 (.st qY14))), (4, (.rw 57 (.st qY14))), (9, (.rw 57 (.st qY14))), (13, (.rw 57 (.st qY14)))], [], TysREq, [], some 4000⟩, (Go.Proofs.Tryd.f86.body).getD .skip, (.seq .no (.seq (.loop ⟨[1], [], [(0, (.rw 57 (.st qY14)))], [], []⟩ (.one (.ext 0) ⟨[], [], [(0, (.rw 57 (.st qY14)))], [], []⟩) .no) .no)), [.val (.rw 57 (.st qY14)), .val (.int .i64)], [(.rw 57 (.st qY14))], [.tmp 4]⟩
noncomputable def layout_padded_r := layout_padded_rRun.F
noncomputable def layout_padded_rEnt : Nat × Go.Lf.Entry := (86, ⟨[.val (.rw 57 (.st qY14)), .val (.int .i64)], [(.rw 57 (.st qY14))], layout_padded_r⟩)
theorem layout_padded_r_ok : Go.Lf.EntryOk Go.Proofs.Tryd.prog GG 86 layout_padded_rEnt.2 := Go.Lf.run_ok layout_padded_rRun Go.Proofs.Tryd.f86 (by kernel_rfl) ⟨TysR_ok, Go.Lf.FnsOk.look (.con layout_sign_r_ok .nil), Go.Lf.IpsOk.look .nil, TysREq_ok, Go.Lf.FxsOk.look .nil⟩ (by kernel_rfl) (by kernel_rfl) (by kernel_rfl) (by kernel_rfl) (by kernel_rfl) (by kernel_rfl) (by kernel_rfl)
noncomputable def layout_marker__line_rRun : Go.Lf.RunS := ⟨⟨32, TysR, [layout_padded_rEnt, layout_sign_rEnt], [2, 3, 18, 31], [], [(2, (.rw 57 (.st qY14))), (3, (.rw 57 (.st qY14))), (18, (.rw 57 (.st qY14))), (31, (.rw 57 (.st qY14)))], [], TysREq, [], some 4000⟩, (Go.Proofs.Tryd.f85.body).getD .skip, (.seq .no (.seq .no (.seq (.seq .no (.loop ⟨[14], [(0, .ref 0 [.i, .l] 0)], [(15, (.int .i64)), (3, (.rw 57 (.st qY14)))], [(0, 104, qY102)], []⟩ (.one (.ext 0) ⟨[], [(0, .ref 0 [.i, .l] 0)], [(3, (.rw 57 (.st qY14)))], [(0, 104, qY102)], []⟩) .no)) .no))), [.obj 104 qY102 qY102 [.i, .l]], [(.rw 57 (.st qY14))], [.tmp 2]⟩
noncomputable def layout_marker__line_r := layout_marker__line_rRun.F
noncomputable def layout_marker__line_rEnt : Nat × Go.Lf.Entry := (85, ⟨[.obj 104 qY102 qY102 [.i, .l]], [(.rw 57 (.st qY14))], layout_marker__line_r⟩)
theorem layout_marker__line_r_ok : Go.Lf.EntryOk Go.Proofs.Tryd.prog GG 85 layout_marker__line_rEnt.2 := Go.Lf.run_ok layout_marker__line_rRun Go.Proofs.Tryd.f85 (by kernel_rfl) ⟨TysR_ok, Go.Lf.FnsOk.look (.con layout_padded_r_ok (.con layout_sign_r_ok .nil)), Go.Lf.IpsOk.look .nil, TysREq_ok, Go.Lf.FxsOk.look .nil⟩ (by kernel_rfl) (by kernel_rfl) (by kernel_rfl) (by kernel_rfl) (by kernel_rfl) (by kernel_rfl) (by kernel_rfl)
noncomputable def layout_setter__drop_rRun : Go.Lf.RunS := ⟨⟨16, TysR, [layout_marker__waiting_rEnt, layout_setter__tell_rEnt, layout_marker__line_rEnt], [], [], [], [], TysREq, [], some 4000⟩, (Go.Proofs.Tryd.f63.body).getD .skip, (.seq (.join (.one .nrm ⟨[], [(0, .ref 0 [] 0)], [], [(0, 104, qY102)], []⟩) .no) .no), [.obj 104 qY102 qY102 []], [], []⟩
noncomputable def layout_setter__drop_r := layout_setter__drop_rRun.F
noncomputable def layout_setter__drop_rEnt : Nat × Go.Lf.Entry := (63, ⟨[.obj 104 qY102 qY102 []], [], layout_setter__drop_r⟩)
theorem layout_setter__drop_r_ok : Go.Lf.EntryOk Go.Proofs.Tryd.prog GG 63 layout_setter__drop_rEnt.2 := Go.Lf.run_ok layout_setter__drop_rRun Go.Proofs.Tryd.f63 (by kernel_rfl) ⟨TysR_ok, Go.Lf.FnsOk.look (.con layout_marker__waiting_r_ok (.con layout_setter__tell_r_ok (.con layout_marker__line_r_ok .nil))), Go.Lf.IpsOk.look .nil, TysREq_ok, Go.Lf.FxsOk.look .nil⟩ (by kernel_rfl) (by kernel_rfl) (by kernel_rfl) (by kernel_rfl) (by kernel_rfl) (by kernel_rfl) (by kernel_rfl)
noncomputable def layout_setter__done_rRun : Go.Lf.RunS := ⟨⟨93, TysR, [layout_marker__waiting_rEnt, layout_setter__tell_rEnt, layout_setter__drop_rEnt, table_Fill_rEnt, layout_marker__line_rEnt, layout_padded_rEnt], [5, 31, 80], [], [(5, (.rw 57 (.st qY14))), (31, qY19), (80, (.rw 57 (.st qY14))), (4000085, (.dead 80 (.rw 57 (.st qY14)))), (6000037, .bool)], [], TysREq, [], some 4000⟩, (Go.Proofs.Tryd.f62.body).getD .skip, (.seq .no (.seq (.seq .no (.cnd (.seq (.opn 999999 .no) .no) .no)) (.seq (.soup 17) (.seq (.join (.one .nrm ⟨[2], [(0, .ref 0 [] 0)], [], [(0, 104, qY102)], []⟩) .no) (.seq .no (.loop ⟨[2, 63], [(0, .ref 0 [] 0)], [(64, (.int .i64))], [(0, 104, qY102)], []⟩ (.one (.ext 0) ⟨[], [(0, .ref 0 [] 0)], [], [(0, 104, qY102)], []⟩) (.seq .no (.seq .no (.seq (.seq .no (.seq .no (.seq (.join (.one .nrm ⟨[2, 63, 64, 4], [(0, .ref 0 [] 0)], [(5, (.rw 57 (.st qY14)))], [(0, 104, qY102)], []⟩) .no) (.souph 11 85 5)))) .no))))))))), [.obj 104 qY102 qY102 []], [], []⟩
noncomputable def layout_setter__done_r := layout_setter__done_rRun.F
noncomputable def layout_setter__done_rEnt : Nat × Go.Lf.Entry := (62, ⟨[.obj 104 qY102 qY102 []], [], layout_setter__done_r⟩)
theorem layout_setter__done_r_ok : Go.Lf.EntryOk Go.Proofs.Tryd.prog GG 62 layout_setter__done_rEnt.2 := Go.Lf.run_ok layout_setter__done_rRun Go.Proofs.Tryd.f62 (by kernel_rfl) ⟨TysR_ok, Go.Lf.FnsOk.look (.con layout_marker__waiting_r_ok (.con layout_setter__tell_r_ok (.con layout_setter__drop_r_ok (.con table_Fill_r_ok (.con layout_marker__line_r_ok (.con layout_padded_r_ok .nil)))))), Go.Lf.IpsOk.look .nil, TysREq_ok, Go.Lf.FxsOk.look .nil⟩ (by kernel_rfl) (by kernel_rfl) (by kernel_rfl) (by kernel_rfl) (by kernel_rfl) (by kernel_rfl) (by kernel_rfl)
noncomputable def layout_setter__item_rRun : Go.Lf.RunS := ⟨⟨79, TysR, [layout_setter__drop_rEnt, strconv_ItoaEnt], [], [], [], [], TysREq, [], some 4000⟩, (Go.Proofs.Tryd.f64.body).getD .skip, (.seq .no (.seq (.draw 12) (.seq .no (.seq .no (.seq .no (.seq (.draw 17) (.seq .no (.draw 17)))))))), [.obj 104 qY102 qY102 []], [], []⟩
noncomputable def layout_setter__item_r := layout_setter__item_rRun.F
noncomputable def layout_setter__item_rEnt : Nat × Go.Lf.Entry := (64, ⟨[.obj 104 qY102 qY102 []], [], layout_setter__item_r⟩)
theorem layout_setter__item_r_ok : Go.Lf.EntryOk Go.Proofs.Tryd.prog GG 64 layout_setter__item_rEnt.2 := Go.Lf.run_ok layout_setter__item_rRun Go.Proofs.Tryd.f64 (by kernel_rfl) ⟨TysR_ok, Go.Lf.FnsOk.look (.con layout_setter__drop_r_ok (.con strconv_Itoa_ok .nil)), Go.Lf.IpsOk.look .nil, TysREq_ok, Go.Lf.FxsOk.look .nil⟩ (by kernel_rfl) (by kernel_rfl) (by kernel_rfl) (by kernel_rfl) (by kernel_rfl) (by kernel_rfl) (by kernel_rfl)
noncomputable def table_shared_rRun : Go.Lf.RunS := ⟨⟨106, TysR, [], [], [], [(18, (.mr 3 (.int .i64)))], [], TysREq, [], some 4000⟩, (Go.Proofs.Tryd.f88.body).getD .skip, (.seq .no (.seq .no (.seq (.seq .no (.cnd (.seq .no (.seq .no (.seq (.seq .no (.loop ⟨[3, 10, 28], [], [(29, (.int .i64)), (11, (.int .i64)), (9, (.mr 3 (.int .i64)))], [], []⟩ (.one (.ext 0) ⟨[], [], [(9, (.mr 3 (.int .i64)))], [], []⟩) (.seq .no (.seq .no (.seq (.join (.one .nrm ⟨[3, 10, 28, 29], [], [(11, (.int .i64)), (9, (.mr 3 (.int .i64)))], [], []⟩) (.seq .no (.seq .no (.seq .no (.seq (.join (.one .nrm ⟨[3, 10, 28, 29, 11], [], [(9, (.mr 3 (.int .i64)))], [], []⟩) .no) .no))))) .no))))) .no))) .no)) (.seq .no (.seq (.seq .no (.loop ⟨[1, 59], [], [(60, (.int .i64)), (9, (.mr 3 (.int .i64))), (13, (.int .i64))], [], []⟩ (.one (.ext 2) ⟨[1], [], [(9, (.mr 3 (.int .i64))), (13, (.int .i64))], [], []⟩) .no)) (.seq (.loop ⟨[1], [], [(9, (.mr 3 (.int .i64))), (13, (.int .i64))], [], []⟩ (.one (.ext 4) ⟨[], [], [(9, (.mr 3 (.int .i64)))], [], []⟩) (.seq .no (.seq (.seq .no (.seq (.seq .no (.loop ⟨[1, 13, 84], [], [(85, (.int .i64)), (15, (.int .i64)), (9, (.mr 3 (.int .i64)))], [], []⟩ (.one (.ext 6) ⟨[1, 13], [], [(9, (.mr 3 (.int .i64))), (15, (.int .i64))], [], []⟩) (.seq .no (.seq .no (.seq (.join (.one .nrm ⟨[1, 13, 84, 85], [], [(15, (.int .i64)), (9, (.mr 3 (.int .i64)))], [], []⟩) (.seq .no (.seq (.draw 9) .no))) .no))))) .no)) .no))) .no)))))), [.val (.sl (.int .i64)), .val (.int .i64), .val (.int .i64), .val (.int .i64)], [(.mr 3 (.int .i64))], [.tmp 8]⟩
noncomputable def table_shared_r := table_shared_rRun.F
noncomputable def table_shared_rEnt : Nat × Go.Lf.Entry := (88, ⟨[.val (.sl (.int .i64)), .val (.int .i64), .val (.int .i64), .val (.int .i64)], [(.mr 3 (.int .i64))], table_shared_r⟩)
theorem table_shared_r_ok : Go.Lf.EntryOk Go.Proofs.Tryd.prog GG 88 table_shared_rEnt.2 := Go.Lf.run_ok table_shared_rRun Go.Proofs.Tryd.f88 (by kernel_rfl) ⟨TysR_ok, Go.Lf.FnsOk.look .nil, Go.Lf.IpsOk.look .nil, TysREq_ok, Go.Lf.FxsOk.look .nil⟩ (by kernel_rfl) (by kernel_rfl) (by kernel_rfl) (by kernel_rfl) (by kernel_rfl) (by kernel_rfl) (by kernel_rfl)
noncomputable def table_Columns_rRun : Go.Lf.RunS := ⟨⟨90, TysR, [table_shared_rEnt], [4, 14, 77, 89], [], [(4, (.rw 173 (.st qY1))), (14, (.rw 173 (.st qY1))), (77, (.rw 173 (.st qY1))), (89, (.rw 173 (.st qY1)))], [], TysREq, [], some 4000⟩, (Go.Proofs.Tryd.f65.body).getD .skip, (.seq .no (.seq .no (.seq (.seq (.join (.one .nrm ⟨[0, 6, 1], [], [(33, .bool)], [], []⟩) .no) .no) (.seq .no (.seq (.seq .no (.loop ⟨[34, 0, 6, 1, 35], [], [(36, (.int .i64)), (8, (.int .i64)), (7, (.int .i64))], [], []⟩ (.more (.ext 0) ⟨[0, 6, 1], [], [(8, (.int .i64)), (7, (.int .i64))], [], []⟩ (.one .ret ⟨[], [], [(4, (.rw 173 (.st qY1))), (5, (.int .i64))], [], []⟩)) (.seq .no (.seq .no (.seq (.join (.more .ret ⟨[], [], [(4, (.rw 173 (.st qY1))), (5, (.int .i64))], [], []⟩ (.one .nrm ⟨[34, 0, 6, 1, 35, 36], [], [(8, (.int .i64)), (7, (.int .i64))], [], []⟩)) (.seq .no (.seq (.seq (.join (.one .nrm ⟨[34, 0, 6, 1, 35, 36, 8, 10, 7], [], [(45, .bool)], [], []⟩) .no) .no) .no))) .no))))) (.seq .no (.seq (.join (.one .nrm ⟨[8, 7, 0, 6, 1], [], [(11, (.int .i64))], [], []⟩) .no) (.seq .no (.seq .no (.seq .no (.seq .no (.seq (.seq .no (.loop ⟨[11, 71, 72], [], [(73, (.int .i64)), (15, (.int .i64)), (14, (.rw 173 (.st qY1)))], [], []⟩ (.one (.ext 2) ⟨[], [], [(14, (.rw 173 (.st qY1)))], [], []⟩) .no)) .no)))))))))))), [.val (.sl (.int .i64)), .val (.int .i64)], [(.rw 173 (.st qY1)), (.int .i64)], [.tmp 4, .tmp 5]⟩
noncomputable def table_Columns_r := table_Columns_rRun.F
noncomputable def table_Columns_rEnt : Nat × Go.Lf.Entry := (65, ⟨[.val (.sl (.int .i64)), .val (.int .i64)], [(.rw 173 (.st qY1)), (.int .i64)], table_Columns_r⟩)
theorem table_Columns_r_ok : Go.Lf.EntryOk Go.Proofs.Tryd.prog GG 65 table_Columns_rEnt.2 := Go.Lf.run_ok table_Columns_rRun Go.Proofs.Tryd.f65 (by kernel_rfl) ⟨TysR_ok, Go.Lf.FnsOk.look (.con table_shared_r_ok .nil), Go.Lf.IpsOk.look .nil, TysREq_ok, Go.Lf.FxsOk.look .nil⟩ (by kernel_rfl) (by kernel_rfl) (by kernel_rfl) (by kernel_rfl) (by kernel_rfl) (by kernel_rfl) (by kernel_rfl)
noncomputable def table_columns_rRun : Go.Lf.RunS := ⟨⟨40, TysR, [], [], [], [], [], TysREq, [], some 4000⟩, (Go.Proofs.Tryd.f105.body).getD .skip, (.seq .no (.seq .no (.seq (.seq .no (.loop ⟨[6, 7], [], [(8, (.int .i64)), (3, (.int .i64))], [], []⟩ (.more (.ext 0) ⟨[], [], [], [], []⟩ (.one .ret ⟨[], [], [(2, (.int .i64))], [], []⟩)) (.seq .no (.seq .no (.seq (.seq .no (.seq (.seq (.join (.one .nrm ⟨[6, 7, 8], [(5, .ref 5 [] 0)], [(33, .bool)], [(5, 173, (.st qY1))], []⟩) .no) .no) .no)) .no))))) .no))), [.val (.sl (.st qY1))], [(.int .i64)], [.tmp 2]⟩
noncomputable def table_columns_r := table_columns_rRun.F
noncomputable def table_columns_rEnt : Nat × Go.Lf.Entry := (105, ⟨[.val (.sl (.st qY1))], [(.int .i64)], table_columns_r⟩)
theorem table_columns_r_ok : Go.Lf.EntryOk Go.Proofs.Tryd.prog GG 105 table_columns_rEnt.2 := Go.Lf.run_ok table_columns_rRun Go.Proofs.Tryd.f105 (by kernel_rfl) ⟨TysR_ok, Go.Lf.FnsOk.look .nil, Go.Lf.IpsOk.look .nil, TysREq_ok, Go.Lf.FxsOk.look .nil⟩ (by kernel_rfl) (by kernel_rfl) (by kernel_rfl) (by kernel_rfl) (by kernel_rfl) (by kernel_rfl) (by kernel_rfl)
noncomputable def table_plain_rRun : Go.Lf.RunS := ⟨⟨3, TysR, [], [], [], [], [], TysREq, [], some 4000⟩, (Go.Proofs.Tryd.f106.body).getD .skip, .no, [], [(.st qY14)], [.cell 0 57]⟩
noncomputable def table_plain_r := table_plain_rRun.F
noncomputable def table_plain_rEnt : Nat × Go.Lf.Entry := (106, ⟨[], [(.st qY14)], table_plain_r⟩)
theorem table_plain_r_ok : Go.Lf.EntryOk Go.Proofs.Tryd.prog GG 106 table_plain_rEnt.2 := Go.Lf.run_ok table_plain_rRun Go.Proofs.Tryd.f106 (by kernel_rfl) ⟨TysR_ok, Go.Lf.FnsOk.look .nil, Go.Lf.IpsOk.look .nil, TysREq_ok, Go.Lf.FxsOk.look .nil⟩ (by kernel_rfl) (by kernel_rfl) (by kernel_rfl) (by kernel_rfl) (by kernel_rfl) (by kernel_rfl) (by kernel_rfl)
noncomputable def table_Row_rRun : Go.Lf.RunS := ⟨⟨116, TysR, [table_Fill_rEnt, table_columns_rEnt, table_plain_rEnt, table_Wide_rEnt], [4, 7, 13, 15, 46, 59, 92, 96, 110, 115], [], [(4, qY19), (7, qY22), (13, qY19), (15, (.rw 57 (.st qY14))), (59, qY22), (92, (.rw 57 (.st qY14))), (96, (.rw 57 (.st qY14))), (110, qY19), (115, qY19)], [], TysREq, [], some 4000⟩, (Go.Proofs.Tryd.f89.body).getD .skip, (.seq .no (.seq (.seq (.join (.one .nrm ⟨[0, 1], [], [(33, .bool)], [], []⟩) .no) .no) (.seq .no (.seq .no (.seq .no (.seq (.seq .no (.loop ⟨[0, 39, 40], [], [(41, (.int .i64)), (8, (.int .i64)), (7, qY22)], [], []⟩ (.more (.ext 0) ⟨[0], [], [(7, qY22), (8, (.int .i64))], [], []⟩ (.one .ret ⟨[], [], [(4, qY19), (5, (.int .i64))], [], []⟩)) .no)) (.seq .no (.seq (.seq .no (.loop ⟨[0, 68], [], [(69, (.int .i64)), (13, qY19), (7, qY22)], [], []⟩ (.one (.ext 2) ⟨[], [], [(13, qY19)], [], []⟩) (.seq .no (.seq .no (.seq (.seq .no (.seq .no (.seq .no (.seq (.seq .no (.loop ⟨[14, 0, 72, 68, 69, 73], [], [(74, (.int .i64)), (16, (.int .i64)), (15, (.rw 57 (.st qY14))), (7, qY22), (13, qY19)], [], []⟩ (.one (.ext 4) ⟨[0, 68, 69], [], [(7, qY22), (15, (.rw 57 (.st qY14))), (13, qY19)], [], []⟩) (.seq .no (.seq .no (.seq (.join (.one .nrm ⟨[14, 0, 72, 68, 69, 73, 74], [], [(16, (.int .i64)), (15, (.rw 57 (.st qY14))), (7, qY22), (13, qY19)], [], []⟩) (.seq .no (.seq .no (.seq (.loop ⟨[14, 0, 72, 68, 69, 73, 74, 18, 17], [], [(16, (.int .i64)), (15, (.rw 57 (.st qY14))), (7, qY22), (13, qY19)], [], []⟩ (.one (.ext 6) ⟨[14, 0, 72, 68, 69, 73, 74, 18], [], [(7, qY22), (13, qY19), (16, (.int .i64)), (15, (.rw 57 (.st qY14)))], [], []⟩) .no) .no)))) .no))))) .no)))) .no))))) .no)))))))), [.val (.sl (.st qY1)), .val (.sl (.sl (.st qY14)))], [qY19, (.int .i64)], [.tmp 4, .tmp 5]⟩
noncomputable def table_Row_r := table_Row_rRun.F
noncomputable def table_Row_rEnt : Nat × Go.Lf.Entry := (89, ⟨[.val (.sl (.st qY1)), .val (.sl (.sl (.st qY14)))], [qY19, (.int .i64)], table_Row_r⟩)
theorem table_Row_r_ok : Go.Lf.EntryOk Go.Proofs.Tryd.prog GG 89 table_Row_rEnt.2 := Go.Lf.run_ok table_Row_rRun Go.Proofs.Tryd.f89 (by kernel_rfl) ⟨TysR_ok, Go.Lf.FnsOk.look (.con table_Fill_r_ok (.con table_columns_r_ok (.con table_plain_r_ok (.con table_Wide_r_ok .nil)))), Go.Lf.IpsOk.look .nil, TysREq_ok, Go.Lf.FxsOk.look .nil⟩ (by kernel_rfl) (by kernel_rfl) (by kernel_rfl) (by kernel_rfl) (by kernel_rfl) (by kernel_rfl) (by kernel_rfl)
noncomputable def layout_setter__row_rRun : Go.Lf.RunS := ⟨⟨43, TysR, [layout_setter__tell_rEnt, table_Row_rEnt], [], [], [(6000009, .bool)], [], TysREq, [], some 4000⟩, (Go.Proofs.Tryd.f66.body).getD .skip, (.seq (.opn 999999 .no) .no), [.obj 104 qY102 qY102 []], [], []⟩
noncomputable def layout_setter__row_r := layout_setter__row_rRun.F
noncomputable def layout_setter__row_rEnt : Nat × Go.Lf.Entry := (66, ⟨[.obj 104 qY102 qY102 []], [], layout_setter__row_r⟩)
theorem layout_setter__row_r_ok : Go.Lf.EntryOk Go.Proofs.Tryd.prog GG 66 layout_setter__row_rEnt.2 := Go.Lf.run_ok layout_setter__row_rRun Go.Proofs.Tryd.f66 (by kernel_rfl) ⟨TysR_ok, Go.Lf.FnsOk.look (.con layout_setter__tell_r_ok (.con table_Row_r_ok .nil)), Go.Lf.IpsOk.look .nil, TysREq_ok, Go.Lf.FxsOk.look .nil⟩ (by kernel_rfl) (by kernel_rfl) (by kernel_rfl) (by kernel_rfl) (by kernel_rfl) (by kernel_rfl) (by kernel_rfl)
noncomputable def layout_setter__end_rRun : Go.Lf.RunS := ⟨⟨42, TysR, [layout_setter__drop_rEnt, layout_setter__row_rEnt], [39], [], [], [], TysREq, [], some 4000⟩, (Go.Proofs.Tryd.f67.body).getD .skip, .no, [.obj 104 qY102 qY102 []], [], []⟩
noncomputable def layout_setter__end_r := layout_setter__end_rRun.F
noncomputable def layout_setter__end_rEnt : Nat × Go.Lf.Entry := (67, ⟨[.obj 104 qY102 qY102 []], [], layout_setter__end_r⟩)
theorem layout_setter__end_r_ok : Go.Lf.EntryOk Go.Proofs.Tryd.prog GG 67 layout_setter__end_rEnt.2 := Go.Lf.run_ok layout_setter__end_rRun Go.Proofs.Tryd.f67 (by kernel_rfl) ⟨TysR_ok, Go.Lf.FnsOk.look (.con layout_setter__drop_r_ok (.con layout_setter__row_r_ok .nil)), Go.Lf.IpsOk.look .nil, TysREq_ok, Go.Lf.FxsOk.look .nil⟩ (by kernel_rfl) (by kernel_rfl) (by kernel_rfl) (by kernel_rfl) (by kernel_rfl) (by kernel_rfl) (by kernel_rfl)
noncomputable def layout_setter__do_rRun : Go.Lf.RunS := ⟨⟨252, TysR, [layout_marker__waiting_rEnt, layout_setter__tell_rEnt, layout_looks__lay_rEnt, layout_setter__styled_rEnt, text_Cells_rEnt, layout_looks__top_rEnt, layout_setter__done_rEnt, layout_setter__drop_rEnt, layout_setter__item_rEnt, table_Columns_rEnt, layout_setter__row_rEnt, layout_setter__end_rEnt], [59, 84, 104, 139, 204], [], [(59, (.rw 57 (.st qY14))), (84, (.rw 57 (.st qY14))), (104, (.rw 57 (.st qY14))), (139, (.rw 52 (.st qY1))), (204, (.rw 144 qY5))], [], TysREq, [], some 4000⟩, (Go.Proofs.Tryd.f37.body).getD .skip, (.seq .no (.seq .no (.seq .no (.cnd (.seq (.join (.one .nrm ⟨[], [(0, .ref 0 [] 0), (4, .ref 4 [] 0)], [], [(0, 104, qY102), (4, 63, (.st qY7))], []⟩) (.seq (.join (.one .nrm ⟨[], [(0, .ref 0 [] 0), (4, .ref 4 [] 0)], [(31, .bool)], [(0, 104, qY102), (4, 63, (.st qY7))], []⟩) .no) .no)) (.seq .no (.soup 4))) (.seq .no (.cnd (.seq .no (.loop ⟨[49, 50], [(0, .ref 0 [] 0)], [(51, (.int .i64))], [(0, 104, qY102)], []⟩ (.one (.ext 1) ⟨[], [(0, .ref 0 [] 0)], [], [(0, 104, qY102)], []⟩) (.seq .no (.seq .no (.seq (.seq .no (.soup 19)) .no))))) (.seq .no (.cnd (.soup 15) (.seq .no (.cnd (.soup 15) (.seq .no (.cnd (.soup 4) (.seq (.join (.one .nrm ⟨[12], [(0, .ref 0 [] 0), (4, .ref 4 [] 0)], [(128, .bool)], [(0, 104, qY102), (4, 63, (.st qY7))], []⟩) .no) (.cnd (.seq .no (.seq (.join (.one .nrm ⟨[], [(0, .ref 0 [] 0), (4, .ref 4 [] 0)], [(8, (.int .i64))], [(0, 104, qY102), (4, 63, (.st qY7))], []⟩) .no) (.seq (.soup 11) (.seq .no (.draw 7))))) (.seq .no (.cnd (.seq .no (.seq (.draw 12) .no)) (.seq .no (.cnd .no (.seq .no (.cnd (.seq .no (.soup 13)) (.seq .no (.cnd .no (.seq .no (.cnd (.seq (.soup 10) .no) .no)))))))))))))))))))))))), [.obj 104 qY102 qY102 [], .val (.st qY7), .val (.int .i64)], [], []⟩
noncomputable def layout_setter__do_r := layout_setter__do_rRun.F
noncomputable def layout_setter__do_rEnt : Nat × Go.Lf.Entry := (37, ⟨[.obj 104 qY102 qY102 [], .val (.st qY7), .val (.int .i64)], [], layout_setter__do_r⟩)
theorem layout_setter__do_r_ok : Go.Lf.EntryOk Go.Proofs.Tryd.prog GG 37 layout_setter__do_rEnt.2 := Go.Lf.run_ok layout_setter__do_rRun Go.Proofs.Tryd.f37 (by kernel_rfl) ⟨TysR_ok, Go.Lf.FnsOk.look (.con layout_marker__waiting_r_ok (.con layout_setter__tell_r_ok (.con layout_looks__lay_r_ok (.con layout_setter__styled_r_ok (.con text_Cells_r_ok (.con layout_looks__top_r_ok (.con layout_setter__done_r_ok (.con layout_setter__drop_r_ok (.con layout_setter__item_r_ok (.con table_Columns_r_ok (.con layout_setter__row_r_ok (.con layout_setter__end_r_ok .nil)))))))))))), Go.Lf.IpsOk.look .nil, TysREq_ok, Go.Lf.FxsOk.look .nil⟩ (by kernel_rfl) (by kernel_rfl) (by kernel_rfl) (by kernel_rfl) (by kernel_rfl) (by kernel_rfl) (by kernel_rfl)
noncomputable def layout_Rects_rRun : Go.Lf.RunS := ⟨⟨66, TysR, [], [], [], [(3, (.mr 50 (.st qY9)))], [], TysREq, [], some 4000⟩, (Go.Proofs.Tryd.f12.body).getD .skip, (.seq .no (.seq .no (.seq (.seq .no (.loop ⟨[10, 11], [], [(3, (.mr 50 (.st qY9))), (12, (.int .i64))], [], []⟩ (.one (.ext 0) ⟨[], [], [(3, (.mr 50 (.st qY9)))], [], []⟩) (.seq .no (.seq .no (.seq (.seq .no (.seq .no (.seq .no (.loop ⟨[4, 17, 10, 11, 12, 18], [], [(19, (.int .i64)), (6, (.int .i64)), (3, (.mr 50 (.st qY9))), (7, (.int .i64))], [], []⟩ (.one (.ext 2) ⟨[10, 11, 12], [], [(3, (.mr 50 (.st qY9)))], [], []⟩) (.seq .no (.seq .no (.seq (.seq .no (.seq (.join (.one .nrm ⟨[4, 17, 10, 11, 12, 18, 19, 6], [(9, .ref 9 [] 0)], [(3, (.mr 50 (.st qY9)))], [(9, 57, (.st qY14))], []⟩) (.seq (.join (.one .nrm ⟨[4, 17, 10, 11, 12, 18, 19, 6], [(9, .ref 9 [] 0)], [(31, .bool), (3, (.mr 50 (.st qY9)))], [(9, 57, (.st qY14))], []⟩) .no) (.cnd (.draw 12) .no))) (.draw 8))) .no))))))) .no))))) .no))), [.val (.sl (.sl (.st qY14)))], [(.sl (.st qY9))], [.tmp 2]⟩
noncomputable def layout_Rects_r := layout_Rects_rRun.F
noncomputable def layout_Rects_rEnt : Nat × Go.Lf.Entry := (12, ⟨[.val (.sl (.sl (.st qY14)))], [(.sl (.st qY9))], layout_Rects_r⟩)
theorem layout_Rects_r_ok : Go.Lf.EntryOk Go.Proofs.Tryd.prog GG 12 layout_Rects_rEnt.2 := Go.Lf.run_ok layout_Rects_rRun Go.Proofs.Tryd.f12 (by kernel_rfl) ⟨TysR_ok, Go.Lf.FnsOk.look .nil, Go.Lf.IpsOk.look .nil, TysREq_ok, Go.Lf.FxsOk.look .nil⟩ (by kernel_rfl) (by kernel_rfl) (by kernel_rfl) (by kernel_rfl) (by kernel_rfl) (by kernel_rfl) (by kernel_rfl)
noncomputable def layout_Layout_rRun : Go.Lf.RunS := ⟨⟨107, TysR, [layout_Rects_rEnt, style_Check_rEnt, ir_Check_rEnt, style_Whole_rEnt, layout_setter__do_rEnt], [29, 38, 73], [], [(54, qY102), (73, (.rw 74 qY5))], [], TysREq, [], some 4000⟩, (Go.Proofs.Tryd.f21.body).getD .skip, (.seq .no (.seq (.seq (.join (.one .nrm ⟨[0, 1, 3, 2], [(8, .ref 8 [] 0)], [(27, .bool)], [(8, 26, (.st qY43))], []⟩) .no) .no) (.seq .no (.seq .no (.seq .no (.seq .no (.seq (.seq .no (.loop ⟨[0, 56, 1, 57], [(14, .ref 55 [] 0), (8, .ref 8 [] 0)], [(58, (.int .i64))], [(55, 104, qY102), (8, 26, (.st qY43))], []⟩ (.one (.ext 0) ⟨[1], [(14, .ref 55 [] 0), (8, .ref 8 [] 0)], [], [(55, 104, qY102), (8, 26, (.st qY43))], []⟩) (.seq .no (.seq .no (.seq (.seq .no (.seq .no (.soup 7))) .no))))) (.seq .no (.seq (.seq .no (.loop ⟨[80, 81], [(14, .ref 55 [] 0), (8, .ref 8 [] 0)], [(82, (.int .i64)), (19, (.int .i64))], [(55, 104, qY102), (8, 26, (.st qY43))], []⟩ (.one (.ext 2) ⟨[], [(8, .ref 8 [] 0), (14, .ref 55 [] 0)], [], [(8, 26, (.st qY43)), (55, 104, qY102)], []⟩) .no)) .no))))))))), [.val qY15, .val (.sl (.st qY7)), .val (.int .i64), .val (.int .i64)], [(.st qY43), (.int .i64)], [.cell 8 26, .tmp 9]⟩
noncomputable def layout_Layout_r := layout_Layout_rRun.F
noncomputable def layout_Layout_rEnt : Nat × Go.Lf.Entry := (21, ⟨[.val qY15, .val (.sl (.st qY7)), .val (.int .i64), .val (.int .i64)], [(.st qY43), (.int .i64)], layout_Layout_r⟩)
theorem layout_Layout_r_ok : Go.Lf.EntryOk Go.Proofs.Tryd.prog GG 21 layout_Layout_rEnt.2 := Go.Lf.run_ok layout_Layout_rRun Go.Proofs.Tryd.f21 (by kernel_rfl) ⟨TysR_ok, Go.Lf.FnsOk.look (.con layout_Rects_r_ok (.con style_Check_r_ok (.con ir_Check_r_ok (.con style_Whole_r_ok (.con layout_setter__do_r_ok .nil))))), Go.Lf.IpsOk.look .nil, TysREq_ok, Go.Lf.FxsOk.look .nil⟩ (by kernel_rfl) (by kernel_rfl) (by kernel_rfl) (by kernel_rfl) (by kernel_rfl) (by kernel_rfl) (by kernel_rfl)
noncomputable def layout_Hit_rRun : Go.Lf.RunS := ⟨⟨47, TysR, [], [], [], [], [], TysREq, [], some 4000⟩, (Go.Proofs.Tryd.f19.body).getD .skip, (.seq .no (.seq (.seq .no (.loop ⟨[2, 1, 11, 12], [], [(13, (.int .i64))], [], []⟩ (.more (.ext 0) ⟨[], [], [], [], []⟩ (.one .ret ⟨[], [], [(6, (.int .i64)), (7, .bool)], [], []⟩)) (.seq .no (.seq .no (.seq (.seq .no (.seq (.join (.one .nrm ⟨[2, 1, 11, 12, 13], [(9, .ref 9 [] 0)], [(43, .bool)], [(9, 50, (.st qY9))], []⟩) .no) .no)) .no))))) .no)), [.val (.st qY43), .val (.int .i64), .val (.int .i64)], [(.int .i64), .bool], [.tmp 6, .tmp 7]⟩
noncomputable def layout_Hit_r := layout_Hit_rRun.F
noncomputable def layout_Hit_rEnt : Nat × Go.Lf.Entry := (19, ⟨[.val (.st qY43), .val (.int .i64), .val (.int .i64)], [(.int .i64), .bool], layout_Hit_r⟩)
theorem layout_Hit_r_ok : Go.Lf.EntryOk Go.Proofs.Tryd.prog GG 19 layout_Hit_rEnt.2 := Go.Lf.run_ok layout_Hit_rRun Go.Proofs.Tryd.f19 (by kernel_rfl) ⟨TysR_ok, Go.Lf.FnsOk.look .nil, Go.Lf.IpsOk.look .nil, TysREq_ok, Go.Lf.FxsOk.look .nil⟩ (by kernel_rfl) (by kernel_rfl) (by kernel_rfl) (by kernel_rfl) (by kernel_rfl) (by kernel_rfl) (by kernel_rfl)
noncomputable def layout_Same_rRun : Go.Lf.RunS := ⟨⟨124, TysR, [], [], [], [], [], TysREq, [], some 4000⟩, (Go.Proofs.Tryd.f14.body).getD .skip, (.seq .no (.seq (.seq (.join (.one .nrm ⟨[], [(3, .ref 3 [] 0), (2, .ref 2 [] 0)], [(40, .bool)], [(3, 26, (.st qY43)), (2, 26, (.st qY43))], []⟩) .no) .no) (.seq (.seq .no (.loop ⟨[43], [(3, .ref 3 [] 0), (2, .ref 2 [] 0)], [(44, (.int .i64))], [(3, 26, (.st qY43)), (2, 26, (.st qY43))], []⟩ (.more (.ext 0) ⟨[], [(3, .ref 3 [] 0), (2, .ref 2 [] 0)], [], [(3, 26, (.st qY43)), (2, 26, (.st qY43))], []⟩ (.one .ret ⟨[], [], [(4, .bool)], [], []⟩)) (.seq .no (.seq .no (.seq (.seq .no (.seq (.seq (.draw 13) .no) (.seq .no (.loop ⟨[5, 43, 44, 65], [(3, .ref 3 [] 0), (2, .ref 2 [] 0)], [(66, (.int .i64))], [(3, 26, (.st qY43)), (2, 26, (.st qY43))], []⟩ (.more (.ext 2) ⟨[43, 44], [(3, .ref 3 [] 0), (2, .ref 2 [] 0)], [], [(3, 26, (.st qY43)), (2, 26, (.st qY43))], []⟩ (.one .ret ⟨[], [], [(4, .bool)], [], []⟩)) (.seq .no (.seq .no (.seq (.seq .no (.seq (.draw 17) .no)) .no))))))) .no))))) (.seq (.seq .no (.loop ⟨[90], [(3, .ref 3 [] 0), (2, .ref 2 [] 0)], [(91, (.int .i64))], [(3, 26, (.st qY43)), (2, 26, (.st qY43))], []⟩ (.more (.ext 4) ⟨[], [(3, .ref 3 [] 0), (2, .ref 2 [] 0)], [], [(3, 26, (.st qY43)), (2, 26, (.st qY43))], []⟩ (.one .ret ⟨[], [], [(4, .bool)], [], []⟩)) (.seq .no (.seq .no (.seq (.seq .no (.seq (.draw 11) .no)) .no))))) (.seq (.seq .no (.loop ⟨[108], [(3, .ref 3 [] 0), (2, .ref 2 [] 0)], [(109, (.int .i64))], [(3, 26, (.st qY43)), (2, 26, (.st qY43))], []⟩ (.more (.ext 6) ⟨[], [], [], [], []⟩ (.one .ret ⟨[], [], [(4, .bool)], [], []⟩)) (.seq .no (.seq .no (.seq (.seq .no (.seq (.draw 11) .no)) .no))))) .no))))), [.val (.st qY43), .val (.st qY43)], [.bool], [.tmp 4]⟩
noncomputable def layout_Same_r := layout_Same_rRun.F
noncomputable def layout_Same_rEnt : Nat × Go.Lf.Entry := (14, ⟨[.val (.st qY43), .val (.st qY43)], [.bool], layout_Same_r⟩)
theorem layout_Same_r_ok : Go.Lf.EntryOk Go.Proofs.Tryd.prog GG 14 layout_Same_rEnt.2 := Go.Lf.run_ok layout_Same_rRun Go.Proofs.Tryd.f14 (by kernel_rfl) ⟨TysR_ok, Go.Lf.FnsOk.look .nil, Go.Lf.IpsOk.look .nil, TysREq_ok, Go.Lf.FxsOk.look .nil⟩ (by kernel_rfl) (by kernel_rfl) (by kernel_rfl) (by kernel_rfl) (by kernel_rfl) (by kernel_rfl) (by kernel_rfl)
noncomputable def foliolaw13_awake_rRun : Go.Lf.RunS := ⟨⟨90, TysR, [layout_Rects_rEnt, layout_Same_rEnt, layout_ShowEnt, layout_Hit_rEnt, layout_Layout_rEnt], [], [], [], [], TysREq, [], some 4000⟩, (Go.Proofs.Tryd.f10.body).getD .skip, (.seq .no (.seq .no (.seq .no (.seq .no (.seq (.seq (.join (.one .nrm ⟨[], [(2, .ref 2 [] 0)], [(58, .bool)], [(2, 26, (.st qY43))], []⟩) .no) .no) (.seq .no (.seq (.join (.one .nrm ⟨[], [], [(0, .bool)], [], []⟩) .no) .no))))))), [], [.bool], [.tmp 0]⟩
noncomputable def foliolaw13_awake_r := foliolaw13_awake_rRun.F
noncomputable def foliolaw13_awake_rEnt : Nat × Go.Lf.Entry := (10, ⟨[], [.bool], foliolaw13_awake_r⟩)
theorem foliolaw13_awake_r_ok : Go.Lf.EntryOk Go.Proofs.Tryd.prog GG 10 foliolaw13_awake_rEnt.2 := Go.Lf.run_ok foliolaw13_awake_rRun Go.Proofs.Tryd.f10 (by kernel_rfl) ⟨TysR_ok, Go.Lf.FnsOk.look (.con layout_Rects_r_ok (.con layout_Same_r_ok (.con layout_Show_ok (.con layout_Hit_r_ok (.con layout_Layout_r_ok .nil))))), Go.Lf.IpsOk.look .nil, TysREq_ok, Go.Lf.FxsOk.look .nil⟩ (by kernel_rfl) (by kernel_rfl) (by kernel_rfl) (by kernel_rfl) (by kernel_rfl) (by kernel_rfl) (by kernel_rfl)
end Go.Fn
/- Chapter 13's first examples, run. -/
namespace Go.Fn
open Go Go.Lf
noncomputable def foliolaw13_awake : Option Bool := foliolaw13_awake_r ()
noncomputable def foliolaw13_awakeEnt : Nat × Entry := (10, ⟨[], [.bool], fun _ => foliolaw13_awake⟩)
theorem foliolaw13_awake_ok : EntryOk Go.Proofs.Tryd.prog GG 10 foliolaw13_awakeEnt.2 := foliolaw13_awake_r_ok
theorem awake : foliolaw13_awake = some true := by kernel_rfl
end Go.Fn
open Go Go.Lf
set_option maxRecDepth 10000
namespace Go.Fn
abbrev rY0 : Go.Lf.Ty := (.pr (.int .i64) (.pr (.int .i64) .unit))
abbrev rT1 : Type := ((Int) × ((Int) × ((Int) × ((Int) × (Unit)))))
abbrev rT2 : Type := (((Int) × ((Int) × (Unit))) × ((Int) × (Unit)))
abbrev rY3 : Go.Lf.Ty := (.pr (.int .i64) (.pr (.int .i64) (.pr .str .unit)))
abbrev rT4 : Type := ((List ((Int) × ((Int) × (Unit)))) × ((Bool) × (Unit)))
abbrev rY5 : Go.Lf.Ty := (.st (.pr (.int .i64) rY0))
abbrev rY6 : Go.Lf.Ty := (.pr (.int .i32) (.pr (.int .i64) (.pr (.int .i64) (.pr .bool .unit))))
abbrev rY7 : Go.Lf.Ty := (.pr (.int .i64) (.pr (.int .i64) (.pr .str (.pr (.sl (.int .i64)) .unit))))
abbrev rT8 : Type := ((List (UInt8)) × ((Int) × rT2))
abbrev rY9 : Go.Lf.Ty := (.pr (.st rY0) (.pr (.int .i64) .unit))
abbrev rY10 : Go.Lf.Ty := (.pr (.int .i64) (.pr (.int .i64) rY0))
abbrev rY11 : Go.Lf.Ty := (.pr (.sl (.st rY0)) (.pr .bool .unit))
abbrev rY12 : Go.Lf.Ty := (.st (.pr (.int .i64) rY10))
abbrev rY13 : Go.Lf.Ty := (.pr .str (.pr (.int .i64) rY9))
abbrev rY14 : Go.Lf.Ty := (.pr (.int .i64) (.pr (.int .i64) rY10))
abbrev rY15 : Go.Lf.Ty := (.pr (.sl (.st (.pr .bool rY10))) (.pr .bool .unit))
abbrev rY16 : Go.Lf.Ty := (.pr (.int .i64) (.pr (.int .i64) rY14))
abbrev rY17 : Go.Lf.Ty := (.pr (.st rY0) (.pr (.st rY0) (.pr (.st rY0) .unit)))
abbrev rY18 : Go.Lf.Ty := (.pr (.sl (.st rY10)) rY11)
abbrev rY19 : Go.Lf.Ty := (.pr (.int .i64) (.pr (.int .i64) rY16))
abbrev rT20 : Type := ((List (List rT8)) × ((List rT1) × rT4))
abbrev rY21 : Go.Lf.Ty := (.pr (.int .i64) (.pr (.int .i64) rY19))
abbrev rY22 : Go.Lf.Ty := (.pr (.int .i64) (.pr (.int .i64) rY21))
abbrev rY23 : Go.Lf.Ty := (.pr (.int .i64) (.pr (.int .i64) rY22))
abbrev rY24 : Go.Lf.Ty := (.pr (.sl (.sl (.st rY13))) rY18)
abbrev rY25 : Go.Lf.Ty := (.pr (.st rY0) (.pr (.st rY0) (.pr (.st rY0) rY17)))
abbrev rY26 : Go.Lf.Ty := (.pr (.int .i64) (.pr (.int .i64) rY23))
abbrev rY27 : Go.Lf.Ty := (.pr (.int .i64) (.pr (.int .i64) rY26))
abbrev rY28 : Go.Lf.Ty := (.pr (.int .i64) (.pr (.int .i64) rY27))
abbrev rY29 : Go.Lf.Ty := (.pr (.int .i64) (.pr (.int .i64) rY28))
abbrev rY30 : Go.Lf.Ty := (.pr (.int .i64) (.pr (.int .i64) rY29))
abbrev rY31 : Go.Lf.Ty := (.pr (.st rY0) (.pr (.st rY0) (.pr (.st rY0) rY25)))
abbrev rY32 : Go.Lf.Ty := (.pr (.int .i64) (.pr (.int .i64) rY30))
abbrev rY33 : Go.Lf.Ty := (.pr (.int .i64) (.pr (.int .i64) rY32))
abbrev rY34 : Go.Lf.Ty := (.pr (.int .i64) (.pr (.int .i64) rY33))
abbrev rY35 : Go.Lf.Ty := (.pr (.st rY0) (.pr (.st rY0) (.pr (.st rY0) rY31)))
abbrev rY36 : Go.Lf.Ty := (.pr (.st rY0) (.pr (.st rY0) (.pr (.st rY0) rY35)))
abbrev rY37 : Go.Lf.Ty := (.pr (.st rY0) (.pr (.st rY0) (.pr (.st rY0) rY36)))
abbrev rY38 : Go.Lf.Ty := (.pr (.st rY0) (.pr (.st rY0) (.pr (.st rY0) rY37)))
abbrev rY39 : Go.Lf.Ty := (.pr (.st rY0) (.pr (.st rY0) (.pr (.st rY0) rY38)))
abbrev rY40 : Go.Lf.Ty := (.pr (.st rY0) (.pr (.st rY0) (.pr (.st rY0) rY39)))
abbrev rY41 : Go.Lf.Ty := (.pr (.st rY0) (.pr (.st rY0) (.pr (.st rY0) rY40)))
abbrev rY42 : Go.Lf.Ty := (.st (.pr (.st rY0) (.pr (.st rY0) rY41)))
abbrev rY43 : Go.Lf.Ty := (.pr rY42 (.pr (.st rY34) (.pr (.int .i64) .unit)))
def Tys : List (Nat × Go.Lf.TyI) := [(2, ⟨(.int .i64), 0, 0⟩),
 (3, ⟨(.int .i64), 0, 0⟩),
 (4, ⟨.bool, 0, 0⟩),
 (5, ⟨(.int .u8), 0, 0⟩),
 (6, ⟨(.int .u8), 0, 0⟩),
 (7, ⟨(.st (.pr (.int .i64) (.pr (.int .i64) (.pr .bool (.pr (.int .u8) .unit))))), 0, 0⟩),
 (8, ⟨(.st (.pr (.int .i64) (.pr (.int .i64) (.pr .bool (.pr (.int .u8) .unit))))), 0, 0⟩),
 (9, ⟨.str, 0, 0⟩),
 (10, ⟨.str, 0, 0⟩),
 (11, ⟨.str, 0, 0⟩),
 (12, ⟨(.int .u64), 0, 0⟩),
 (13, ⟨(.st (.pr .str (.pr (.int .u64) .unit))), 0, 0⟩),
 (14, ⟨(.st (.pr .str (.pr (.int .u64) .unit))), 0, 0⟩),
 (21, ⟨(.int .i32), 0, 0⟩),
 (22, ⟨(.sl (.sl (.st rY13))), 47, 24⟩),
 (23, ⟨(.sl (.st rY10)), 50, 32⟩),
 (24, ⟨(.sl (.st rY0)), 52, 16⟩),
 (25, ⟨(.st rY24), 0, 0⟩),
 (26, ⟨(.st rY24), 0, 0⟩),
 (27, ⟨(.sl (.st rY0)), 37, 16⟩),
 (33, ⟨(.sl .str), 9, 16⟩),
 (36, ⟨(.st rY0), 0, 0⟩),
 (37, ⟨(.st rY0), 0, 0⟩),
 (41, ⟨(.sl (.st (.pr .str (.pr .str (.pr rY5 .unit))))), 76, 56⟩),
 (42, ⟨(.sl (.st rY7)), 63, 56⟩),
 (43, ⟨(.int .i64), 0, 0⟩),
 (47, ⟨(.sl (.st rY13)), 57, 48⟩),
 (49, ⟨(.st rY10), 0, 0⟩),
 (50, ⟨(.st rY10), 0, 0⟩),
 (51, ⟨(.st rY0), 0, 0⟩),
 (52, ⟨(.st rY0), 0, 0⟩),
 (54, ⟨(.st rY0), 0, 0⟩),
 (55, ⟨(.st rY0), 0, 0⟩),
 (56, ⟨(.st rY13), 0, 0⟩),
 (57, ⟨(.st rY13), 0, 0⟩),
 (59, ⟨(.sl (.int .i64)), 3, 8⟩),
 (60, ⟨(.sl .bool), 4, 1⟩),
 (61, ⟨(.int .i64), 0, 0⟩),
 (62, ⟨(.st rY7), 0, 0⟩),
 (63, ⟨(.st rY7), 0, 0⟩),
 (64, ⟨(.sl (.st (.pr .str rY0))), 67, 32⟩),
 (66, ⟨(.st (.pr .str rY0)), 0, 0⟩),
 (67, ⟨(.st (.pr .str rY0)), 0, 0⟩),
 (72, ⟨(.sl rY5), 74, 24⟩),
 (73, ⟨rY5, 0, 0⟩),
 (74, ⟨rY5, 0, 0⟩),
 (75, ⟨(.st (.pr .str (.pr .str (.pr rY5 .unit)))), 0, 0⟩),
 (76, ⟨(.st (.pr .str (.pr .str (.pr rY5 .unit)))), 0, 0⟩),
 (82, ⟨(.sl (.int .u8)), 5, 1⟩),
 (90, ⟨(.int .u64), 0, 0⟩),
 (95, ⟨(.st rY3), 0, 0⟩),
 (96, ⟨(.st rY3), 0, 0⟩),
 (97, ⟨rY42, 55, 32⟩),
 (98, ⟨(.st rY34), 3, 32⟩),
 (99, ⟨(.st rY43), 0, 0⟩),
 (100, ⟨(.st rY43), 0, 0⟩),
 (101, ⟨(.sl rY5), 144, 24⟩),
 (102, ⟨(.sl (.st (.pr (.sl (.st rY0)) (.pr (.sl (.sl (.st rY13))) (.pr (.int .i64) .unit))))), 149, 56⟩),
 (103, ⟨(.st (.pr (.st rY3) (.pr (.st rY43) (.pr (.sl rY5) (.pr (.int .i64) (.pr (.int .i64) (.pr (.sl rY5) (.pr (.sl (.st (.pr (.sl (.st rY0)) (.pr (.sl (.sl (.st rY13))) (.pr (.int .i64) .unit))))) (.pr (.sl (.st rY13)) (.pr (.int .i64) (.pr (.st rY24) .unit))))))))))), 0, 0⟩),
 (108, ⟨(.sl (.st rY6)), 112, 32⟩),
 (111, ⟨(.st rY6), 0, 0⟩),
 (112, ⟨(.st rY6), 0, 0⟩),
 (114, ⟨(.sl (.st (.pr .bool rY10))), 178, 40⟩),
 (115, ⟨(.st (.pr .bool (.pr (.sl .bool) rY15))), 0, 0⟩),
 (116, ⟨(.st (.pr .bool (.pr (.sl .bool) rY15))), 0, 0⟩),
 (117, ⟨(.st (.pr (.st (.pr .bool (.pr (.sl .bool) rY15))) .unit)), 0, 0⟩),
 (118, ⟨(.st (.pr (.st (.pr .bool (.pr (.sl .bool) rY15))) .unit)), 0, 0⟩),
 (129, ⟨(.ptr (.st (.pr (.st (.pr rY12 (.pr rY12 (.pr rY12 (.pr rY12 (.pr rY12 (.pr rY12 (.pr rY12 (.pr rY12 (.pr rY12 (.pr rY12 (.pr rY12 (.pr rY12 (.pr rY12 (.pr rY12 (.pr rY12 (.pr rY12 (.pr rY12 (.pr rY12 (.pr rY12 (.pr rY12 (.pr rY12 (.pr rY12 (.pr rY12 (.pr rY12 (.pr rY12 (.pr rY12 .unit))))))))))))))))))))))))))) rY10))), 0, 0⟩),
 (156, ⟨(.ptr rY12), 0, 0⟩),
 (160, ⟨(.ptr (.st rY3)), 0, 0⟩),
 (161, ⟨(.ptr (.st rY43)), 0, 0⟩),
 (169, ⟨(.ptr rY5), 0, 0⟩),
 (185, ⟨(.ptr (.st (.pr (.int .i64) (.pr (.sl (.sl (.st rY13))) (.pr (.sl (.st rY13)) (.pr (.int .i64) (.pr (.sl (.st rY13)) .unit))))))), 0, 0⟩)]
theorem Tys_ok : ∀ id i, Go.Lf.look Tys id = some i → Go.Lf.TyOk Go.Proofs.Tryd.prog id i := Go.Lf.tysB_ok (by kernel_rfl)
def TysEq : List (Nat × Go.Lf.Ty) := [(50, rY10), (52, rY0), (57, rY13)]
theorem TysEq_ok : ∀ id t, Go.Lf.look TysEq id = some t → Go.Lf.eqTop Go.Proofs.Tryd.prog id t = true := Go.Lf.eqsB_ok (by kernel_rfl)
noncomputable def layout_RectsCtx : Go.Lf.Ctx := ⟨66, Tys, [], [], [], [(3, (.mr 50 (.st rY10)))], [], TysEq, [], none⟩
noncomputable def layout_RectsCode : Go.Code := (Go.Proofs.Tryd.f12.body).getD .skip
def layout_RectsAnn : Go.Lf.Ann := (.seq .no (.seq .no (.seq (.seq .no (.loop ⟨[10, 11], [], [(3, (.mr 50 (.st rY10))), (12, (.int .i64))], [], []⟩ (.one (.ext 0) ⟨[], [], [(3, (.mr 50 (.st rY10)))], [], []⟩) (.seq .no (.seq .no (.seq (.seq .no (.seq .no (.seq .no (.loop ⟨[4, 17, 10, 11, 12, 18], [], [(19, (.int .i64)), (6, (.int .i64)), (3, (.mr 50 (.st rY10))), (7, (.int .i64))], [], []⟩ (.one (.ext 2) ⟨[10, 11, 12], [], [(3, (.mr 50 (.st rY10)))], [], []⟩) (.seq .no (.seq .no (.seq (.seq .no (.seq (.join (.one .nrm ⟨[4, 17, 10, 11, 12, 18, 19, 6], [(9, .ref 9 [] 0)], [(3, (.mr 50 (.st rY10)))], [(9, 57, (.st rY13))], []⟩) (.seq (.join (.one .nrm ⟨[4, 17, 10, 11, 12, 18, 19, 6], [(9, .ref 9 [] 0)], [(31, .bool), (3, (.mr 50 (.st rY10)))], [(9, 57, (.st rY13))], []⟩) .no) (.cnd (.draw 12) .no))) (.draw 8))) .no))))))) .no))))) .no)))
noncomputable def layout_Rects (a0 : List (List rT8)) : Option (List rT1) :=
 (Go.Lf.loopC (σ := (List rT1) × (Int)) (κ := List rT1) (fun z1 =>
     bif (decide (z1.2 < (((List.length a0) : Nat) : Int))) then ((Go.Lf.idx a0 z1.2)).bind fun r2 =>
     (Go.Lf.loopC (σ := (Int) × ((Int) × ((List rT1) × (Int)))) (κ := List rT1) (fun z3 =>
         bif (decide (z3.1 < (((List.length r2) : Nat) : Int))) then ((Go.Lf.idx r2 z3.1)).bind fun r4 =>
         ((bif (decide ((r4.2.2.2.1 : Int) ≠ (0 : Int))) then some ((decide ((r4.2.2.2.1 : Int) = z3.2.2.2)), (z3.2.2.1, r4))
             else some (false, (z3.2.2.1, r4))).bind fun r5 =>
           bif r5.1 then ((Go.Lf.chk (List.length r5.2.1) (Go.IntKind.wrap .i64 ((((List.length r5.2.1) : Nat) : Int) - (1 : Int))))).bind fun r6 =>
           ((Go.Lf.nth r5.2.1 r6)).bind fun r7 =>
           ((Go.Lf.chk (List.length r5.2.1) (Go.IntKind.wrap .i64 ((((List.length r5.2.1) : Nat) : Int) - (1 : Int))))).bind fun r8 =>
           ((Go.Lf.nth r5.2.1 r8)).bind fun r9 =>
           some ((List.set r5.2.1 r8 (r9.1, (r9.2.1, ((Go.IntKind.wrap .i64 (r7.2.2.1 + r5.2.2.2.1)), r9.2.2.2)))), r5.2.2)
           else bif (decide ((r5.2.2.2.2.2.1 : Int) ≠ (0 : Int))) then ((Go.Lf.app (32 : Nat) r5.2.1 ((z1.2, (z3.2.1, (r5.2.2.2.1, (r5.2.2.2.2.2.1, ())))) :: ([] : List rT1)))).bind fun r10 =>
           some (r10, r5.2.2)
           else some (r5.2.1, r5.2.2)).bind fun r11 =>
         some (.inl ((Go.IntKind.wrap .i64 (z3.1 + (1 : Int))), ((Go.IntKind.wrap .i64 (z3.2.1 + r11.2.2.1)), (r11.1, r11.2.2.2.2.1))))
         else some (.inr z3.2.2.1)) ((0 : Int), ((0 : Int), (z1.1, (0 : Int)))) : Option (List rT1)).bind fun r12 =>
     some (.inl (r12, (Go.IntKind.wrap .i64 (z1.2 + (1 : Int)))))
     else some (.inr z1.1)) (([] : List rT1), (0 : Int)) : Option (List rT1)).bind fun r13 =>
 some r13
theorem layout_Rects_eq (a0 : List (List rT8)) : Go.Lf.fnE layout_RectsCtx layout_RectsCode layout_RectsAnn [.val (.sl (.sl (.st rY13)))] [(.sl (.st rY10))] [.tmp 2] (a0) = layout_Rects a0 := by kernel_rfl
noncomputable def layout_RectsEnt : Nat × Go.Lf.Entry := (12, ⟨[.val (.sl (.sl (.st rY13)))], [(.sl (.st rY10))], fun z => layout_Rects z⟩)
theorem layout_Rects_ok : Go.Lf.EntryOk Go.Proofs.Tryd.prog GG 12 layout_RectsEnt.2 :=
  Go.Lf.fn_ok (c := layout_RectsCtx) (code := layout_RectsCode) (an := layout_RectsAnn) (slots := [.tmp 2]) (fn := Go.Proofs.Tryd.f12) (by kernel_rfl) ⟨Tys_ok, Go.Lf.FnsOk.look .nil, Go.Lf.IpsOk.look .nil, TysEq_ok, Go.Lf.FxsOk.look .nil⟩ (by kernel_rfl) (by kernel_rfl) (by kernel_rfl) (by kernel_rfl) (by kernel_rfl) (Nat.le_of_ble_eq_true rfl) (by simp [Go.Lf.Ty.top]) (by simp [Go.Lf.Ty.top]) fun z r h => (layout_Rects_eq z).trans h
noncomputable def folioref13_RectsCtx : Go.Lf.Ctx := ⟨73, Tys, [], [], [], [(3, (.mr 50 (.st rY10)))], [], TysEq, [], none⟩
noncomputable def folioref13_RectsCode : Go.Code := (Go.Proofs.Tryd.f13.body).getD .skip
def folioref13_RectsAnn : Go.Lf.Ann := (.seq .no (.seq .no (.seq (.seq .no (.loop ⟨[9, 10], [], [(3, (.mr 50 (.st rY10))), (11, (.int .i64))], [], []⟩ (.one (.ext 0) ⟨[], [], [(3, (.mr 50 (.st rY10)))], [], []⟩) (.seq .no (.seq .no (.seq (.seq .no (.seq .no (.seq .no (.loop ⟨[4, 5, 16, 9, 10, 11, 17], [], [(18, (.int .i64)), (6, (.int .i64)), (3, (.mr 50 (.st rY10)))], [], []⟩ (.one (.ext 2) ⟨[9, 10, 11], [], [(3, (.mr 50 (.st rY10)))], [], []⟩) (.seq .no (.seq .no (.seq (.seq .no (.seq (.join (.one .nrm ⟨[4, 5, 16, 9, 10, 11, 17, 18, 6], [(8, .ref 8 [] 0)], [(3, (.mr 50 (.st rY10)))], [(8, 57, (.st rY13))], []⟩) (.seq (.join (.one .nrm ⟨[4, 5, 16, 9, 10, 11, 17, 18, 6], [(8, .ref 8 [] 0)], [(40, .bool), (3, (.mr 50 (.st rY10)))], [(8, 57, (.st rY13))], []⟩) (.draw 18)) (.cnd (.draw 12) .no))) .no)) .no))))))) .no))))) .no)))
noncomputable def folioref13_Rects (a0 : List (List rT8)) : Option (List rT1) :=
 (Go.Lf.loopC (σ := (List rT1) × (Int)) (κ := List rT1) (fun z1 =>
     bif (decide (z1.2 < (((List.length a0) : Nat) : Int))) then ((Go.Lf.idx a0 z1.2)).bind fun r2 =>
     (Go.Lf.loopC (σ := (Int) × ((Int) × (List rT1))) (κ := List rT1) (fun z3 =>
         bif (decide (z3.1 < (((List.length r2) : Nat) : Int))) then ((Go.Lf.idx r2 z3.1)).bind fun r4 =>
         ((bif (decide ((r4.2.2.2.1 : Int) ≠ (0 : Int))) then bif (decide ((0 : Int) < z3.1)) then ((Go.Lf.idx r2 (Go.IntKind.wrap .i64 (z3.1 - (1 : Int))))).bind fun r5 =>
             some ((decide ((r5.2.2.2.1 : Int) = r4.2.2.2.1)), (z3.2.2, r4))
             else some (false, (z3.2.2, r4))
             else some (false, (z3.2.2, r4))).bind fun r6 =>
           bif r6.1 then ((Go.Lf.chk (List.length r6.2.1) (Go.IntKind.wrap .i64 ((((List.length r6.2.1) : Nat) : Int) - (1 : Int))))).bind fun r7 =>
           ((Go.Lf.nth r6.2.1 r7)).bind fun r8 =>
           ((Go.Lf.chk (List.length r6.2.1) (Go.IntKind.wrap .i64 ((((List.length r6.2.1) : Nat) : Int) - (1 : Int))))).bind fun r9 =>
           ((Go.Lf.nth r6.2.1 r9)).bind fun r10 =>
           some ((List.set r6.2.1 r9 (r10.1, (r10.2.1, ((Go.IntKind.wrap .i64 (r8.2.2.1 + r6.2.2.2.1)), r10.2.2.2)))), r6.2.2)
           else bif (decide ((r6.2.2.2.2.2.1 : Int) ≠ (0 : Int))) then ((Go.Lf.app (32 : Nat) r6.2.1 ((z1.2, (z3.2.1, (r6.2.2.2.1, (r6.2.2.2.2.2.1, ())))) :: ([] : List rT1)))).bind fun r11 =>
           some (r11, r6.2.2)
           else some (r6.2.1, r6.2.2)).bind fun r12 =>
         some (.inl ((Go.IntKind.wrap .i64 (z3.1 + (1 : Int))), ((Go.IntKind.wrap .i64 (z3.2.1 + r12.2.2.1)), r12.1)))
         else some (.inr z3.2.2)) ((0 : Int), ((0 : Int), z1.1)) : Option (List rT1)).bind fun r13 =>
     some (.inl (r13, (Go.IntKind.wrap .i64 (z1.2 + (1 : Int)))))
     else some (.inr z1.1)) (([] : List rT1), (0 : Int)) : Option (List rT1)).bind fun r14 =>
 some r14
theorem folioref13_Rects_eq (a0 : List (List rT8)) : Go.Lf.fnE folioref13_RectsCtx folioref13_RectsCode folioref13_RectsAnn [.val (.sl (.sl (.st rY13)))] [(.sl (.st rY10))] [.tmp 2] (a0) = folioref13_Rects a0 := by kernel_rfl
noncomputable def folioref13_RectsEnt : Nat × Go.Lf.Entry := (13, ⟨[.val (.sl (.sl (.st rY13)))], [(.sl (.st rY10))], fun z => folioref13_Rects z⟩)
theorem folioref13_Rects_ok : Go.Lf.EntryOk Go.Proofs.Tryd.prog GG 13 folioref13_RectsEnt.2 :=
  Go.Lf.fn_ok (c := folioref13_RectsCtx) (code := folioref13_RectsCode) (an := folioref13_RectsAnn) (slots := [.tmp 2]) (fn := Go.Proofs.Tryd.f13) (by kernel_rfl) ⟨Tys_ok, Go.Lf.FnsOk.look .nil, Go.Lf.IpsOk.look .nil, TysEq_ok, Go.Lf.FxsOk.look .nil⟩ (by kernel_rfl) (by kernel_rfl) (by kernel_rfl) (by kernel_rfl) (by kernel_rfl) (Nat.le_of_ble_eq_true rfl) (by simp [Go.Lf.Ty.top]) (by simp [Go.Lf.Ty.top]) fun z r h => (folioref13_Rects_eq z).trans h
noncomputable def foliolaw13_rectsCtx : Go.Lf.Ctx := ⟨26, Tys, [], [], [], [], [], TysEq, [], none⟩
noncomputable def foliolaw13_rectsCode : Go.Code := (Go.Proofs.Tryd.f11.body).getD .skip
def foliolaw13_rectsAnn : Go.Lf.Ann := (.seq .no (.seq .no (.seq (.seq .no (.loop ⟨[1, 0, 12], [], [(13, (.int .i64))], [], []⟩ (.more (.ext 0) ⟨[], [], [], [], []⟩ (.one .ret ⟨[], [], [(4, .bool)], [], []⟩)) (.seq .no (.seq .no (.seq (.seq .no (.seq (.draw 9) .no)) .no))))) .no)))
noncomputable def foliolaw13_rects (a0 : List rT1) (a1 : List rT1) : Option (Bool) :=
 bif (decide (((((List.length a0) : Nat) : Int) : Int) ≠ (((List.length a1) : Nat) : Int))) then some false
 else (Go.Lf.loopC (σ := Int) (κ := (Unit) ⊕ (Bool)) (fun z1 =>
     bif (decide (z1 < (((List.length a0) : Nat) : Int))) then ((Go.Lf.idx a0 z1)).bind fun r2 =>
     ((Go.Lf.idx a1 z1)).bind fun r3 =>
     bif (!(bif (decide ((r2.1 : Int) = r3.1)) then (bif (decide ((r2.2.1 : Int) = r3.2.1)) then (bif (decide ((r2.2.2.1 : Int) = r3.2.2.1)) then (bif (decide ((r2.2.2.2.1 : Int) = r3.2.2.2.1)) then true else false) else false) else false) else false)) then some (.inr (.inr false))
     else some (.inl (Go.IntKind.wrap .i64 (z1 + (1 : Int))))
     else some (.inr (.inl ()))) (0 : Int) : Option ((Unit) ⊕ (Bool))).bind fun r4 =>
 Go.Lf.onSum r4 (fun a5 =>
 some true) (fun b6 =>
 some b6)
theorem foliolaw13_rects_eq (a0 : List rT1) (a1 : List rT1) : Go.Lf.fnE foliolaw13_rectsCtx foliolaw13_rectsCode foliolaw13_rectsAnn [.val (.sl (.st rY10)), .val (.sl (.st rY10))] [.bool] [.tmp 4] (a0, a1) = foliolaw13_rects a0 a1 := by kernel_rfl
noncomputable def foliolaw13_rectsEnt : Nat × Go.Lf.Entry := (11, ⟨[.val (.sl (.st rY10)), .val (.sl (.st rY10))], [.bool], fun z => foliolaw13_rects z.1 z.2⟩)
theorem foliolaw13_rects_ok : Go.Lf.EntryOk Go.Proofs.Tryd.prog GG 11 foliolaw13_rectsEnt.2 :=
  Go.Lf.fn_ok (c := foliolaw13_rectsCtx) (code := foliolaw13_rectsCode) (an := foliolaw13_rectsAnn) (slots := [.tmp 4]) (fn := Go.Proofs.Tryd.f11) (by kernel_rfl) ⟨Tys_ok, Go.Lf.FnsOk.look .nil, Go.Lf.IpsOk.look .nil, TysEq_ok, Go.Lf.FxsOk.look .nil⟩ (by kernel_rfl) (by kernel_rfl) (by kernel_rfl) (by kernel_rfl) (by kernel_rfl) (Nat.le_of_ble_eq_true rfl) (by simp [Go.Lf.Ty.top]) (by simp [Go.Lf.Ty.top]) fun z r h => (foliolaw13_rects_eq z.1 z.2).trans h
noncomputable def layout_SameCtx : Go.Lf.Ctx := ⟨124, Tys, [], [], [], [], [], TysEq, [], none⟩
noncomputable def layout_SameCode : Go.Code := (Go.Proofs.Tryd.f14.body).getD .skip
def layout_SameAnn : Go.Lf.Ann := (.seq .no (.seq (.seq (.join (.one .nrm ⟨[], [(3, .ref 3 [] 0), (2, .ref 2 [] 0)], [(40, .bool)], [(3, 26, (.st rY24)), (2, 26, (.st rY24))], []⟩) .no) .no) (.seq (.seq .no (.loop ⟨[43], [(3, .ref 3 [] 0), (2, .ref 2 [] 0)], [(44, (.int .i64))], [(3, 26, (.st rY24)), (2, 26, (.st rY24))], []⟩ (.more (.ext 0) ⟨[], [(3, .ref 3 [] 0), (2, .ref 2 [] 0)], [], [(3, 26, (.st rY24)), (2, 26, (.st rY24))], []⟩ (.one .ret ⟨[], [], [(4, .bool)], [], []⟩)) (.seq .no (.seq .no (.seq (.seq .no (.seq (.seq (.draw 13) .no) (.seq .no (.loop ⟨[5, 43, 44, 65], [(3, .ref 3 [] 0), (2, .ref 2 [] 0)], [(66, (.int .i64))], [(3, 26, (.st rY24)), (2, 26, (.st rY24))], []⟩ (.more (.ext 2) ⟨[43, 44], [(3, .ref 3 [] 0), (2, .ref 2 [] 0)], [], [(3, 26, (.st rY24)), (2, 26, (.st rY24))], []⟩ (.one .ret ⟨[], [], [(4, .bool)], [], []⟩)) (.seq .no (.seq .no (.seq (.seq .no (.seq (.draw 17) .no)) .no))))))) .no))))) (.seq (.seq .no (.loop ⟨[90], [(3, .ref 3 [] 0), (2, .ref 2 [] 0)], [(91, (.int .i64))], [(3, 26, (.st rY24)), (2, 26, (.st rY24))], []⟩ (.more (.ext 4) ⟨[], [(3, .ref 3 [] 0), (2, .ref 2 [] 0)], [], [(3, 26, (.st rY24)), (2, 26, (.st rY24))], []⟩ (.one .ret ⟨[], [], [(4, .bool)], [], []⟩)) (.seq .no (.seq .no (.seq (.seq .no (.seq (.draw 11) .no)) .no))))) (.seq (.seq .no (.loop ⟨[108], [(3, .ref 3 [] 0), (2, .ref 2 [] 0)], [(109, (.int .i64))], [(3, 26, (.st rY24)), (2, 26, (.st rY24))], []⟩ (.more (.ext 6) ⟨[], [], [], [], []⟩ (.one .ret ⟨[], [], [(4, .bool)], [], []⟩)) (.seq .no (.seq .no (.seq (.seq .no (.seq (.draw 11) .no)) .no))))) .no)))))
noncomputable def layout_Same (a0 : (List (List rT8)) × ((List rT1) × rT4)) (a1 : (List (List rT8)) × ((List rT1) × rT4)) : Option (Bool) :=
 (bif (!(decide (((((List.length a0.1) : Nat) : Int) : Int) ≠ (((List.length a1.1) : Nat) : Int)))) then bif (!(decide (((((List.length a0.2.1) : Nat) : Int) : Int) ≠ (((List.length a1.2.1) : Nat) : Int)))) then bif (!(decide (((((List.length a0.2.2.1) : Nat) : Int) : Int) ≠ (((List.length a1.2.2.1) : Nat) : Int)))) then some ((decide ((a0.2.2.2.1 : Bool) ≠ a1.2.2.2.1)), (a1, a0))
   else some (true, (a1, a0))
   else some (true, (a1, a0))
   else some (true, (a1, a0))).bind fun r1 =>
 bif r1.1 then some false
 else (Go.Lf.loopC (σ := (Int) × (rT20 × rT20)) (κ := (rT20 × rT20) ⊕ (Bool)) (fun z2 =>
     bif (decide (z2.1 < (((List.length r1.2.2.1) : Nat) : Int))) then ((Go.Lf.idx z2.2.2.1 z2.1)).bind fun r3 =>
     ((Go.Lf.idx z2.2.1.1 z2.1)).bind fun r4 =>
     bif (decide (((((List.length r3) : Nat) : Int) : Int) ≠ (((List.length r4) : Nat) : Int))) then some (.inr (.inr false))
     else ((Go.Lf.idx z2.2.2.1 z2.1)).bind fun r5 =>
     (Go.Lf.loopC (σ := (Int) × (rT20 × rT20)) (κ := (rT20 × rT20) ⊕ (Bool)) (fun z6 =>
         bif (decide (z6.1 < (((List.length r5) : Nat) : Int))) then ((Go.Lf.idx z6.2.2.1 z2.1)).bind fun r7 =>
         ((Go.Lf.idx r7 z6.1)).bind fun r8 =>
         ((Go.Lf.idx z6.2.1.1 z2.1)).bind fun r9 =>
         ((Go.Lf.idx r9 z6.1)).bind fun r10 =>
         bif (!(bif (decide ((r8.1 : List (UInt8)) = r10.1)) then (bif (decide ((r8.2.1 : Int) = r10.2.1)) then (bif (bif (decide ((r8.2.2.1.1 : Int) = r10.2.2.1.1)) then (bif (decide ((r8.2.2.1.2.1 : Int) = r10.2.2.1.2.1)) then true else false) else false) then (bif (decide ((r8.2.2.2.1 : Int) = r10.2.2.2.1)) then true else false) else false) else false) else false)) then some (.inr (.inr false))
         else some (.inl ((Go.IntKind.wrap .i64 (z6.1 + (1 : Int))), (z6.2.1, z6.2.2)))
         else some (.inr (.inl (z6.2.1, z6.2.2)))) ((0 : Int), (z2.2.1, z2.2.2)) : Option ((rT20 × rT20) ⊕ (Bool))).bind fun r11 =>
     Go.Lf.onSum r11 (fun a12 =>
     some (.inl ((Go.IntKind.wrap .i64 (z2.1 + (1 : Int))), (a12.1, a12.2)))) (fun b13 =>
     some (.inr (.inr b13)))
     else some (.inr (.inl (z2.2.1, z2.2.2)))) ((0 : Int), (r1.2.1, r1.2.2)) : Option ((rT20 × rT20) ⊕ (Bool))).bind fun r14 =>
 Go.Lf.onSum r14 (fun a15 =>
 (Go.Lf.loopC (σ := (Int) × (rT20 × rT20)) (κ := (rT20 × rT20) ⊕ (Bool)) (fun z16 =>
     bif (decide (z16.1 < (((List.length a15.2.2.1) : Nat) : Int))) then ((Go.Lf.idx z16.2.2.2.1 z16.1)).bind fun r17 =>
     ((Go.Lf.idx z16.2.1.2.1 z16.1)).bind fun r18 =>
     bif (!(bif (decide ((r17.1 : Int) = r18.1)) then (bif (decide ((r17.2.1 : Int) = r18.2.1)) then (bif (decide ((r17.2.2.1 : Int) = r18.2.2.1)) then (bif (decide ((r17.2.2.2.1 : Int) = r18.2.2.2.1)) then true else false) else false) else false) else false)) then some (.inr (.inr false))
     else some (.inl ((Go.IntKind.wrap .i64 (z16.1 + (1 : Int))), (z16.2.1, z16.2.2)))
     else some (.inr (.inl (z16.2.1, z16.2.2)))) ((0 : Int), (a15.1, a15.2)) : Option ((rT20 × rT20) ⊕ (Bool))).bind fun r19 =>
 Go.Lf.onSum r19 (fun a20 =>
 (Go.Lf.loopC (σ := (Int) × (rT20 × rT20)) (κ := (Unit) ⊕ (Bool)) (fun z21 =>
     bif (decide (z21.1 < (((List.length a20.2.2.2.1) : Nat) : Int))) then ((Go.Lf.idx z21.2.2.2.2.1 z21.1)).bind fun r22 =>
     ((Go.Lf.idx z21.2.1.2.2.1 z21.1)).bind fun r23 =>
     bif (!(bif (decide ((r22.1 : Int) = r23.1)) then (bif (decide ((r22.2.1 : Int) = r23.2.1)) then true else false) else false)) then some (.inr (.inr false))
     else some (.inl ((Go.IntKind.wrap .i64 (z21.1 + (1 : Int))), (z21.2.1, z21.2.2)))
     else some (.inr (.inl ()))) ((0 : Int), (a20.1, a20.2)) : Option ((Unit) ⊕ (Bool))).bind fun r24 =>
 Go.Lf.onSum r24 (fun a25 =>
 some true) (fun b26 =>
 some b26)) (fun b27 =>
 some b27)) (fun b28 =>
 some b28)
theorem layout_Same_eq (a0 : (List (List rT8)) × ((List rT1) × rT4)) (a1 : (List (List rT8)) × ((List rT1) × rT4)) : Go.Lf.fnE layout_SameCtx layout_SameCode layout_SameAnn [.val (.st rY24), .val (.st rY24)] [.bool] [.tmp 4] (a0, a1) = layout_Same a0 a1 := by kernel_rfl
noncomputable def layout_SameEnt : Nat × Go.Lf.Entry := (14, ⟨[.val (.st rY24), .val (.st rY24)], [.bool], fun z => layout_Same z.1 z.2⟩)
theorem layout_Same_ok : Go.Lf.EntryOk Go.Proofs.Tryd.prog GG 14 layout_SameEnt.2 :=
  Go.Lf.fn_ok (c := layout_SameCtx) (code := layout_SameCode) (an := layout_SameAnn) (slots := [.tmp 4]) (fn := Go.Proofs.Tryd.f14) (by kernel_rfl) ⟨Tys_ok, Go.Lf.FnsOk.look .nil, Go.Lf.IpsOk.look .nil, TysEq_ok, Go.Lf.FxsOk.look .nil⟩ (by kernel_rfl) (by kernel_rfl) (by kernel_rfl) (by kernel_rfl) (by kernel_rfl) (Nat.le_of_ble_eq_true rfl) (by simp [Go.Lf.Ty.top]) (by simp [Go.Lf.Ty.top]) fun z r h => (layout_Same_eq z.1 z.2).trans h
noncomputable def folioref13_SameLineCtx : Go.Lf.Ctx := ⟨26, Tys, [], [], [], [], [], TysEq, [], none⟩
noncomputable def folioref13_SameLineCode : Go.Code := (Go.Proofs.Tryd.f28.body).getD .skip
def folioref13_SameLineAnn : Go.Lf.Ann := (.seq .no (.seq .no (.seq (.seq .no (.loop ⟨[1, 0, 12], [], [(13, (.int .i64))], [], []⟩ (.more (.ext 0) ⟨[], [], [], [], []⟩ (.one .ret ⟨[], [], [(4, .bool)], [], []⟩)) (.seq .no (.seq .no (.seq (.seq .no (.seq (.draw 9) .no)) .no))))) .no)))
noncomputable def folioref13_SameLine (a0 : List rT8) (a1 : List rT8) : Option (Bool) :=
 bif (decide (((((List.length a0) : Nat) : Int) : Int) ≠ (((List.length a1) : Nat) : Int))) then some false
 else (Go.Lf.loopC (σ := Int) (κ := (Unit) ⊕ (Bool)) (fun z1 =>
     bif (decide (z1 < (((List.length a0) : Nat) : Int))) then ((Go.Lf.idx a0 z1)).bind fun r2 =>
     ((Go.Lf.idx a1 z1)).bind fun r3 =>
     bif (!(bif (decide ((r2.1 : List (UInt8)) = r3.1)) then (bif (decide ((r2.2.1 : Int) = r3.2.1)) then (bif (bif (decide ((r2.2.2.1.1 : Int) = r3.2.2.1.1)) then (bif (decide ((r2.2.2.1.2.1 : Int) = r3.2.2.1.2.1)) then true else false) else false) then (bif (decide ((r2.2.2.2.1 : Int) = r3.2.2.2.1)) then true else false) else false) else false) else false)) then some (.inr (.inr false))
     else some (.inl (Go.IntKind.wrap .i64 (z1 + (1 : Int))))
     else some (.inr (.inl ()))) (0 : Int) : Option ((Unit) ⊕ (Bool))).bind fun r4 =>
 Go.Lf.onSum r4 (fun a5 =>
 some true) (fun b6 =>
 some b6)
theorem folioref13_SameLine_eq (a0 : List rT8) (a1 : List rT8) : Go.Lf.fnE folioref13_SameLineCtx folioref13_SameLineCode folioref13_SameLineAnn [.val (.sl (.st rY13)), .val (.sl (.st rY13))] [.bool] [.tmp 4] (a0, a1) = folioref13_SameLine a0 a1 := by kernel_rfl
noncomputable def folioref13_SameLineEnt : Nat × Go.Lf.Entry := (28, ⟨[.val (.sl (.st rY13)), .val (.sl (.st rY13))], [.bool], fun z => folioref13_SameLine z.1 z.2⟩)
theorem folioref13_SameLine_ok : Go.Lf.EntryOk Go.Proofs.Tryd.prog GG 28 folioref13_SameLineEnt.2 :=
  Go.Lf.fn_ok (c := folioref13_SameLineCtx) (code := folioref13_SameLineCode) (an := folioref13_SameLineAnn) (slots := [.tmp 4]) (fn := Go.Proofs.Tryd.f28) (by kernel_rfl) ⟨Tys_ok, Go.Lf.FnsOk.look .nil, Go.Lf.IpsOk.look .nil, TysEq_ok, Go.Lf.FxsOk.look .nil⟩ (by kernel_rfl) (by kernel_rfl) (by kernel_rfl) (by kernel_rfl) (by kernel_rfl) (Nat.le_of_ble_eq_true rfl) (by simp [Go.Lf.Ty.top]) (by simp [Go.Lf.Ty.top]) fun z r h => (folioref13_SameLine_eq z.1 z.2).trans h
noncomputable def folioref13_SameCtx : Go.Lf.Ctx := ⟨95, Tys, [folioref13_SameLineEnt], [], [], [], [], TysEq, [], none⟩
noncomputable def folioref13_SameCode : Go.Code := (Go.Proofs.Tryd.f15.body).getD .skip
def folioref13_SameAnn : Go.Lf.Ann := (.seq .no (.seq (.seq (.join (.one .nrm ⟨[], [(3, .ref 3 [] 0), (2, .ref 2 [] 0)], [(39, .bool)], [(3, 26, (.st rY24)), (2, 26, (.st rY24))], []⟩) .no) .no) (.seq (.seq .no (.loop ⟨[42], [(3, .ref 3 [] 0), (2, .ref 2 [] 0)], [(43, (.int .i64))], [(3, 26, (.st rY24)), (2, 26, (.st rY24))], []⟩ (.more (.ext 0) ⟨[], [(3, .ref 3 [] 0), (2, .ref 2 [] 0)], [], [(3, 26, (.st rY24)), (2, 26, (.st rY24))], []⟩ (.one .ret ⟨[], [], [(4, .bool)], [], []⟩)) (.seq .no (.seq .no (.seq (.seq .no (.seq (.draw 12) .no)) .no))))) (.seq (.seq .no (.loop ⟨[61], [(3, .ref 3 [] 0), (2, .ref 2 [] 0)], [(62, (.int .i64))], [(3, 26, (.st rY24)), (2, 26, (.st rY24))], []⟩ (.more (.ext 2) ⟨[], [(3, .ref 3 [] 0), (2, .ref 2 [] 0)], [], [(3, 26, (.st rY24)), (2, 26, (.st rY24))], []⟩ (.one .ret ⟨[], [], [(4, .bool)], [], []⟩)) (.seq .no (.seq .no (.seq (.seq .no (.seq (.draw 11) .no)) .no))))) (.seq (.seq .no (.loop ⟨[79], [(3, .ref 3 [] 0), (2, .ref 2 [] 0)], [(80, (.int .i64))], [(3, 26, (.st rY24)), (2, 26, (.st rY24))], []⟩ (.more (.ext 4) ⟨[], [], [], [], []⟩ (.one .ret ⟨[], [], [(4, .bool)], [], []⟩)) (.seq .no (.seq .no (.seq (.seq .no (.seq (.draw 11) .no)) .no))))) .no)))))
noncomputable def folioref13_Same (a0 : (List (List rT8)) × ((List rT1) × rT4)) (a1 : (List (List rT8)) × ((List rT1) × rT4)) : Option (Bool) :=
 (bif (!(decide (((((List.length a0.1) : Nat) : Int) : Int) ≠ (((List.length a1.1) : Nat) : Int)))) then bif (!(decide (((((List.length a0.2.1) : Nat) : Int) : Int) ≠ (((List.length a1.2.1) : Nat) : Int)))) then bif (!(decide (((((List.length a0.2.2.1) : Nat) : Int) : Int) ≠ (((List.length a1.2.2.1) : Nat) : Int)))) then some ((decide ((a0.2.2.2.1 : Bool) ≠ a1.2.2.2.1)), (a1, a0))
   else some (true, (a1, a0))
   else some (true, (a1, a0))
   else some (true, (a1, a0))).bind fun r1 =>
 bif r1.1 then some false
 else (Go.Lf.loopC (σ := (Int) × (rT20 × rT20)) (κ := (rT20 × rT20) ⊕ (Bool)) (fun z2 =>
     bif (decide (z2.1 < (((List.length r1.2.2.1) : Nat) : Int))) then ((Go.Lf.idx z2.2.2.1 z2.1)).bind fun r3 =>
     ((Go.Lf.idx z2.2.1.1 z2.1)).bind fun r4 =>
     ((Go.Fn.folioref13_SameLine r3 r4)).bind fun r5 =>
     bif (!r5) then some (.inr (.inr false))
     else some (.inl ((Go.IntKind.wrap .i64 (z2.1 + (1 : Int))), (z2.2.1, z2.2.2)))
     else some (.inr (.inl (z2.2.1, z2.2.2)))) ((0 : Int), (r1.2.1, r1.2.2)) : Option ((rT20 × rT20) ⊕ (Bool))).bind fun r6 =>
 Go.Lf.onSum r6 (fun a7 =>
 (Go.Lf.loopC (σ := (Int) × (rT20 × rT20)) (κ := (rT20 × rT20) ⊕ (Bool)) (fun z8 =>
     bif (decide (z8.1 < (((List.length a7.2.2.1) : Nat) : Int))) then ((Go.Lf.idx z8.2.2.2.1 z8.1)).bind fun r9 =>
     ((Go.Lf.idx z8.2.1.2.1 z8.1)).bind fun r10 =>
     bif (!(bif (decide ((r9.1 : Int) = r10.1)) then (bif (decide ((r9.2.1 : Int) = r10.2.1)) then (bif (decide ((r9.2.2.1 : Int) = r10.2.2.1)) then (bif (decide ((r9.2.2.2.1 : Int) = r10.2.2.2.1)) then true else false) else false) else false) else false)) then some (.inr (.inr false))
     else some (.inl ((Go.IntKind.wrap .i64 (z8.1 + (1 : Int))), (z8.2.1, z8.2.2)))
     else some (.inr (.inl (z8.2.1, z8.2.2)))) ((0 : Int), (a7.1, a7.2)) : Option ((rT20 × rT20) ⊕ (Bool))).bind fun r11 =>
 Go.Lf.onSum r11 (fun a12 =>
 (Go.Lf.loopC (σ := (Int) × (rT20 × rT20)) (κ := (Unit) ⊕ (Bool)) (fun z13 =>
     bif (decide (z13.1 < (((List.length a12.2.2.2.1) : Nat) : Int))) then ((Go.Lf.idx z13.2.2.2.2.1 z13.1)).bind fun r14 =>
     ((Go.Lf.idx z13.2.1.2.2.1 z13.1)).bind fun r15 =>
     bif (!(bif (decide ((r14.1 : Int) = r15.1)) then (bif (decide ((r14.2.1 : Int) = r15.2.1)) then true else false) else false)) then some (.inr (.inr false))
     else some (.inl ((Go.IntKind.wrap .i64 (z13.1 + (1 : Int))), (z13.2.1, z13.2.2)))
     else some (.inr (.inl ()))) ((0 : Int), (a12.1, a12.2)) : Option ((Unit) ⊕ (Bool))).bind fun r16 =>
 Go.Lf.onSum r16 (fun a17 =>
 some true) (fun b18 =>
 some b18)) (fun b19 =>
 some b19)) (fun b20 =>
 some b20)
theorem folioref13_Same_eq (a0 : (List (List rT8)) × ((List rT1) × rT4)) (a1 : (List (List rT8)) × ((List rT1) × rT4)) : Go.Lf.fnE folioref13_SameCtx folioref13_SameCode folioref13_SameAnn [.val (.st rY24), .val (.st rY24)] [.bool] [.tmp 4] (a0, a1) = folioref13_Same a0 a1 := by kernel_rfl
noncomputable def folioref13_SameEnt : Nat × Go.Lf.Entry := (15, ⟨[.val (.st rY24), .val (.st rY24)], [.bool], fun z => folioref13_Same z.1 z.2⟩)
theorem folioref13_Same_ok : Go.Lf.EntryOk Go.Proofs.Tryd.prog GG 15 folioref13_SameEnt.2 :=
  Go.Lf.fn_ok (c := folioref13_SameCtx) (code := folioref13_SameCode) (an := folioref13_SameAnn) (slots := [.tmp 4]) (fn := Go.Proofs.Tryd.f15) (by kernel_rfl) ⟨Tys_ok, Go.Lf.FnsOk.look (.con folioref13_SameLine_ok .nil), Go.Lf.IpsOk.look .nil, TysEq_ok, Go.Lf.FxsOk.look .nil⟩ (by kernel_rfl) (by kernel_rfl) (by kernel_rfl) (by kernel_rfl) (by kernel_rfl) (Nat.le_of_ble_eq_true rfl) (by simp [Go.Lf.Ty.top]) (by simp [Go.Lf.Ty.top]) fun z r h => (folioref13_Same_eq z.1 z.2).trans h
noncomputable def folioref13_ShowCtx : Go.Lf.Ctx := ⟨32, Tys, [], [2, 3, 26, 31], [], [(2, (.rw 9 .str)), (3, (.rw 9 .str)), (26, (.rw 9 .str)), (31, (.rw 9 .str))], [], TysEq, [], none⟩
noncomputable def folioref13_ShowCode : Go.Code := (Go.Proofs.Tryd.f18.body).getD .skip
def folioref13_ShowAnn : Go.Lf.Ann := (.seq .no (.seq .no (.seq (.seq .no (.loop ⟨[9, 10], [], [(11, (.int .i64)), (3, (.rw 9 .str))], [], []⟩ (.one (.ext 0) ⟨[], [], [(3, (.rw 9 .str))], [], []⟩) (.seq .no (.seq .no (.seq (.seq .no (.seq .no (.seq (.seq .no (.loop ⟨[15, 9, 10, 11, 16], [], [(17, (.int .i64)), (6, .str), (3, (.rw 9 .str))], [], []⟩ (.one (.ext 2) ⟨[9, 10, 11], [], [(6, .str), (3, (.rw 9 .str))], [], []⟩) .no)) .no))) .no))))) .no)))
noncomputable def folioref13_Show (a0 : List (List rT8)) : Option (List (List (UInt8))) :=
 (Go.Lf.loopC (σ := (Int) × (List (List (UInt8)))) (κ := List (List (UInt8))) (fun z1 =>
     bif (decide (z1.1 < (((List.length a0) : Nat) : Int))) then ((Go.Lf.idx a0 z1.1)).bind fun r2 =>
     (Go.Lf.loopC (σ := (Int) × ((List (UInt8)) × (List (List (UInt8))))) (κ := (List (UInt8)) × (List (List (UInt8)))) (fun z3 =>
         bif (decide (z3.1 < (((List.length r2) : Nat) : Int))) then ((Go.Lf.idx r2 z3.1)).bind fun r4 =>
         ((Go.Lf.cat z3.2.1 r4.1)).bind fun r5 =>
         some (.inl ((Go.IntKind.wrap .i64 (z3.1 + (1 : Int))), (r5, z3.2.2)))
         else some (.inr (z3.2.1, z3.2.2))) ((0 : Int), (([] : List (UInt8)), z1.2)) : Option ((List (UInt8)) × (List (List (UInt8))))).bind fun r6 =>
     ((Go.Lf.app (16 : Nat) r6.2 (r6.1 :: ([] : List (List (UInt8)))))).bind fun r7 =>
     some (.inl ((Go.IntKind.wrap .i64 (z1.1 + (1 : Int))), r7))
     else some (.inr z1.2)) ((0 : Int), ([] : List (List (UInt8)))) : Option (List (List (UInt8)))).bind fun r8 =>
 some r8
theorem folioref13_Show_eq (a0 : List (List rT8)) : Go.Lf.fnE folioref13_ShowCtx folioref13_ShowCode folioref13_ShowAnn [.val (.sl (.sl (.st rY13)))] [(.rw 9 .str)] [.tmp 2] (a0) = folioref13_Show a0 := by kernel_rfl
noncomputable def folioref13_ShowEnt : Nat × Go.Lf.Entry := (18, ⟨[.val (.sl (.sl (.st rY13)))], [(.rw 9 .str)], fun z => folioref13_Show z⟩)
theorem folioref13_Show_ok : Go.Lf.EntryOk Go.Proofs.Tryd.prog GG 18 folioref13_ShowEnt.2 :=
  Go.Lf.fn_ok (c := folioref13_ShowCtx) (code := folioref13_ShowCode) (an := folioref13_ShowAnn) (slots := [.tmp 2]) (fn := Go.Proofs.Tryd.f18) (by kernel_rfl) ⟨Tys_ok, Go.Lf.FnsOk.look .nil, Go.Lf.IpsOk.look .nil, TysEq_ok, Go.Lf.FxsOk.look .nil⟩ (by kernel_rfl) (by kernel_rfl) (by kernel_rfl) (by kernel_rfl) (by kernel_rfl) (Nat.le_of_ble_eq_true rfl) (by simp [Go.Lf.Ty.top]) (by simp [Go.Lf.Ty.top]) fun z r h => (folioref13_Show_eq z).trans h
noncomputable def folioref01_TextsCtx : Go.Lf.Ctx := ⟨26, Tys, [], [], [], [], [], TysEq, [], none⟩
noncomputable def folioref01_TextsCode : Go.Code := (Go.Proofs.Tryd.f31.body).getD .skip
def folioref01_TextsAnn : Go.Lf.Ann := (.seq .no (.seq .no (.seq (.seq .no (.loop ⟨[1, 0, 12], [], [(13, (.int .i64))], [], []⟩ (.more (.ext 0) ⟨[], [], [], [], []⟩ (.one .ret ⟨[], [], [(4, .bool)], [], []⟩)) (.seq .no (.seq .no (.seq (.seq .no (.seq (.draw 9) .no)) .no))))) .no)))
noncomputable def folioref01_Texts (a0 : List (List (UInt8))) (a1 : List (List (UInt8))) : Option (Bool) :=
 bif (decide (((((List.length a0) : Nat) : Int) : Int) ≠ (((List.length a1) : Nat) : Int))) then some false
 else (Go.Lf.loopC (σ := Int) (κ := (Unit) ⊕ (Bool)) (fun z1 =>
     bif (decide (z1 < (((List.length a0) : Nat) : Int))) then ((Go.Lf.idx a0 z1)).bind fun r2 =>
     ((Go.Lf.idx a1 z1)).bind fun r3 =>
     bif (decide ((r2 : List (UInt8)) ≠ r3)) then some (.inr (.inr false))
     else some (.inl (Go.IntKind.wrap .i64 (z1 + (1 : Int))))
     else some (.inr (.inl ()))) (0 : Int) : Option ((Unit) ⊕ (Bool))).bind fun r4 =>
 Go.Lf.onSum r4 (fun a5 =>
 some true) (fun b6 =>
 some b6)
theorem folioref01_Texts_eq (a0 : List (List (UInt8))) (a1 : List (List (UInt8))) : Go.Lf.fnE folioref01_TextsCtx folioref01_TextsCode folioref01_TextsAnn [.val (.sl .str), .val (.sl .str)] [.bool] [.tmp 4] (a0, a1) = folioref01_Texts a0 a1 := by kernel_rfl
noncomputable def folioref01_TextsEnt : Nat × Go.Lf.Entry := (31, ⟨[.val (.sl .str), .val (.sl .str)], [.bool], fun z => folioref01_Texts z.1 z.2⟩)
theorem folioref01_Texts_ok : Go.Lf.EntryOk Go.Proofs.Tryd.prog GG 31 folioref01_TextsEnt.2 :=
  Go.Lf.fn_ok (c := folioref01_TextsCtx) (code := folioref01_TextsCode) (an := folioref01_TextsAnn) (slots := [.tmp 4]) (fn := Go.Proofs.Tryd.f31) (by kernel_rfl) ⟨Tys_ok, Go.Lf.FnsOk.look .nil, Go.Lf.IpsOk.look .nil, TysEq_ok, Go.Lf.FxsOk.look .nil⟩ (by kernel_rfl) (by kernel_rfl) (by kernel_rfl) (by kernel_rfl) (by kernel_rfl) (Nat.le_of_ble_eq_true rfl) (by simp [Go.Lf.Ty.top]) (by simp [Go.Lf.Ty.top]) fun z r h => (folioref01_Texts_eq z.1 z.2).trans h
noncomputable def folioref09_TextsCtx : Go.Lf.Ctx := ⟨8, Tys, [folioref01_TextsEnt], [], [], [], [], TysEq, [], none⟩
noncomputable def folioref09_TextsCode : Go.Code := (Go.Proofs.Tryd.f16.body).getD .skip
def folioref09_TextsAnn : Go.Lf.Ann := .no
noncomputable def folioref09_Texts (a0 : List (List (UInt8))) (a1 : List (List (UInt8))) : Option (Bool) :=
 ((Go.Fn.folioref01_Texts a0 a1)).bind fun r1 =>
 some r1
theorem folioref09_Texts_eq (a0 : List (List (UInt8))) (a1 : List (List (UInt8))) : Go.Lf.fnE folioref09_TextsCtx folioref09_TextsCode folioref09_TextsAnn [.val (.sl .str), .val (.sl .str)] [.bool] [.tmp 4] (a0, a1) = folioref09_Texts a0 a1 := by kernel_rfl
noncomputable def folioref09_TextsEnt : Nat × Go.Lf.Entry := (16, ⟨[.val (.sl .str), .val (.sl .str)], [.bool], fun z => folioref09_Texts z.1 z.2⟩)
theorem folioref09_Texts_ok : Go.Lf.EntryOk Go.Proofs.Tryd.prog GG 16 folioref09_TextsEnt.2 :=
  Go.Lf.fn_ok (c := folioref09_TextsCtx) (code := folioref09_TextsCode) (an := folioref09_TextsAnn) (slots := [.tmp 4]) (fn := Go.Proofs.Tryd.f16) (by kernel_rfl) ⟨Tys_ok, Go.Lf.FnsOk.look (.con folioref01_Texts_ok .nil), Go.Lf.IpsOk.look .nil, TysEq_ok, Go.Lf.FxsOk.look .nil⟩ (by kernel_rfl) (by kernel_rfl) (by kernel_rfl) (by kernel_rfl) (by kernel_rfl) (Nat.le_of_ble_eq_true rfl) (by simp [Go.Lf.Ty.top]) (by simp [Go.Lf.Ty.top]) fun z r h => (folioref09_Texts_eq z.1 z.2).trans h
noncomputable def layout_HitCtx : Go.Lf.Ctx := ⟨47, Tys, [], [], [], [], [], TysEq, [], none⟩
noncomputable def layout_HitCode : Go.Code := (Go.Proofs.Tryd.f19.body).getD .skip
def layout_HitAnn : Go.Lf.Ann := (.seq .no (.seq (.seq .no (.loop ⟨[2, 1, 11, 12], [], [(13, (.int .i64))], [], []⟩ (.more (.ext 0) ⟨[], [], [], [], []⟩ (.one .ret ⟨[], [], [(6, (.int .i64)), (7, .bool)], [], []⟩)) (.seq .no (.seq .no (.seq (.seq .no (.seq (.join (.one .nrm ⟨[2, 1, 11, 12, 13], [(9, .ref 9 [] 0)], [(43, .bool)], [(9, 50, (.st rY10))], []⟩) .no) .no)) .no))))) .no))
noncomputable def layout_Hit (a0 : (List (List rT8)) × ((List rT1) × rT4)) (a1 : Int) (a2 : Int) : Option ((Int) × (Bool)) :=
 (Go.Lf.loopC (σ := Int) (κ := (Unit) ⊕ ((Int) × (Bool))) (fun z1 =>
     bif (decide (z1 < (((List.length a0.2.1) : Nat) : Int))) then ((Go.Lf.idx a0.2.1 z1)).bind fun r2 =>
     (bif (decide ((r2.1 : Int) = a1)) then bif (decide (r2.2.1 ≤ a2)) then bif (decide ((0 : Int) < r2.2.2.1)) then some ((decide ((Go.IntKind.wrap .u64 ((Go.IntKind.wrap .u64 a2) - (Go.IntKind.wrap .u64 r2.2.1))) < (Go.IntKind.wrap .u64 r2.2.2.1))), r2)
       else some (false, r2)
       else some (false, r2)
       else some (false, r2)).bind fun r3 =>
     bif r3.1 then some (.inr (.inr (r3.2.2.2.2.1, true)))
     else some (.inl (Go.IntKind.wrap .i64 (z1 + (1 : Int))))
     else some (.inr (.inl ()))) (0 : Int) : Option ((Unit) ⊕ ((Int) × (Bool)))).bind fun r4 =>
 Go.Lf.onSum r4 (fun a5 =>
 some ((0 : Int), false)) (fun b6 =>
 some (b6.1, b6.2))
theorem layout_Hit_eq (a0 : (List (List rT8)) × ((List rT1) × rT4)) (a1 : Int) (a2 : Int) : Go.Lf.fnE layout_HitCtx layout_HitCode layout_HitAnn [.val (.st rY24), .val (.int .i64), .val (.int .i64)] [(.int .i64), .bool] [.tmp 6, .tmp 7] (a0, a1, a2) = layout_Hit a0 a1 a2 := by kernel_rfl
noncomputable def layout_HitEnt : Nat × Go.Lf.Entry := (19, ⟨[.val (.st rY24), .val (.int .i64), .val (.int .i64)], [(.int .i64), .bool], fun z => layout_Hit z.1 z.2.1 z.2.2⟩)
theorem layout_Hit_ok : Go.Lf.EntryOk Go.Proofs.Tryd.prog GG 19 layout_HitEnt.2 :=
  Go.Lf.fn_ok (c := layout_HitCtx) (code := layout_HitCode) (an := layout_HitAnn) (slots := [.tmp 6, .tmp 7]) (fn := Go.Proofs.Tryd.f19) (by kernel_rfl) ⟨Tys_ok, Go.Lf.FnsOk.look .nil, Go.Lf.IpsOk.look .nil, TysEq_ok, Go.Lf.FxsOk.look .nil⟩ (by kernel_rfl) (by kernel_rfl) (by kernel_rfl) (by kernel_rfl) (by kernel_rfl) (Nat.le_of_ble_eq_true rfl) (by simp [Go.Lf.Ty.top]) (by simp [Go.Lf.Ty.top]) fun z r h => (layout_Hit_eq z.1 z.2.1 z.2.2).trans h
noncomputable def folioref13_HitCtx : Go.Lf.Ctx := ⟨47, Tys, [], [], [], [], [], TysEq, [], none⟩
noncomputable def folioref13_HitCode : Go.Code := (Go.Proofs.Tryd.f20.body).getD .skip
def folioref13_HitAnn : Go.Lf.Ann := (.seq .no (.seq (.seq .no (.loop ⟨[2, 1, 11, 12], [], [(13, (.int .i64))], [], []⟩ (.more (.ext 0) ⟨[], [], [], [], []⟩ (.one .ret ⟨[], [], [(6, (.int .i64)), (7, .bool)], [], []⟩)) (.seq .no (.seq .no (.seq (.seq .no (.seq (.join (.one .nrm ⟨[2, 1, 11, 12, 13], [(9, .ref 9 [] 0)], [(43, .bool)], [(9, 50, (.st rY10))], []⟩) .no) .no)) .no))))) .no))
noncomputable def folioref13_Hit (a0 : (List (List rT8)) × ((List rT1) × rT4)) (a1 : Int) (a2 : Int) : Option ((Int) × (Bool)) :=
 (Go.Lf.loopC (σ := Int) (κ := (Unit) ⊕ ((Int) × (Bool))) (fun z1 =>
     bif (decide (z1 < (((List.length a0.2.1) : Nat) : Int))) then ((Go.Lf.idx a0.2.1 z1)).bind fun r2 =>
     (bif (decide ((a1 : Int) = r2.1)) then bif (decide (r2.2.1 ≤ a2)) then bif (decide ((0 : Int) < r2.2.2.1)) then some ((decide ((Go.IntKind.wrap .u64 ((Go.IntKind.wrap .u64 a2) - (Go.IntKind.wrap .u64 r2.2.1))) < (Go.IntKind.wrap .u64 r2.2.2.1))), r2)
       else some (false, r2)
       else some (false, r2)
       else some (false, r2)).bind fun r3 =>
     bif r3.1 then some (.inr (.inr (r3.2.2.2.2.1, true)))
     else some (.inl (Go.IntKind.wrap .i64 (z1 + (1 : Int))))
     else some (.inr (.inl ()))) (0 : Int) : Option ((Unit) ⊕ ((Int) × (Bool)))).bind fun r4 =>
 Go.Lf.onSum r4 (fun a5 =>
 some ((0 : Int), false)) (fun b6 =>
 some (b6.1, b6.2))
theorem folioref13_Hit_eq (a0 : (List (List rT8)) × ((List rT1) × rT4)) (a1 : Int) (a2 : Int) : Go.Lf.fnE folioref13_HitCtx folioref13_HitCode folioref13_HitAnn [.val (.st rY24), .val (.int .i64), .val (.int .i64)] [(.int .i64), .bool] [.tmp 6, .tmp 7] (a0, a1, a2) = folioref13_Hit a0 a1 a2 := by kernel_rfl
noncomputable def folioref13_HitEnt : Nat × Go.Lf.Entry := (20, ⟨[.val (.st rY24), .val (.int .i64), .val (.int .i64)], [(.int .i64), .bool], fun z => folioref13_Hit z.1 z.2.1 z.2.2⟩)
theorem folioref13_Hit_ok : Go.Lf.EntryOk Go.Proofs.Tryd.prog GG 20 folioref13_HitEnt.2 :=
  Go.Lf.fn_ok (c := folioref13_HitCtx) (code := folioref13_HitCode) (an := folioref13_HitAnn) (slots := [.tmp 6, .tmp 7]) (fn := Go.Proofs.Tryd.f20) (by kernel_rfl) ⟨Tys_ok, Go.Lf.FnsOk.look .nil, Go.Lf.IpsOk.look .nil, TysEq_ok, Go.Lf.FxsOk.look .nil⟩ (by kernel_rfl) (by kernel_rfl) (by kernel_rfl) (by kernel_rfl) (by kernel_rfl) (Nat.le_of_ble_eq_true rfl) (by simp [Go.Lf.Ty.top]) (by simp [Go.Lf.Ty.top]) fun z r h => (folioref13_Hit_eq z.1 z.2.1 z.2.2).trans h
noncomputable def foliolaw13_LayoutHitsCtx : Go.Lf.Ctx := ⟨82, Tys, [foliolaw13_awakeEnt, foliolaw13_rectsEnt, layout_RectsEnt, folioref13_RectsEnt, layout_SameEnt, folioref13_SameEnt, folioref09_TextsEnt, layout_ShowEnt, folioref13_ShowEnt, layout_HitEnt, folioref13_HitEnt], [], [], [], [], TysEq, [], none⟩
noncomputable def foliolaw13_LayoutHitsCode : Go.Code := (Go.Proofs.Tryd.f3.body).getD .skip
def foliolaw13_LayoutHitsAnn : Go.Lf.Ann := (.seq .no (.seq (.seq (.join (.one .nrm ⟨[3], [(5, .ref 5 [] 0)], [(48, .bool)], [(5, 26, (.st rY24))], []⟩) (.soup 30)) .no) (.seq (.seq .no (.loop ⟨[49, 50], [(5, .ref 5 [] 0)], [(51, (.int .i64))], [(5, 26, (.st rY24))], []⟩ (.more (.ext 0) ⟨[], [], [], [], []⟩ (.one .ret ⟨[], [], [(8, .bool)], [], []⟩)) (.seq .no (.seq .no (.seq (.seq .no (.seq .no (.seq .no (.seq (.join (.one .nrm ⟨[49, 50, 51], [(5, .ref 5 [] 0)], [(80, .bool)], [(5, 26, (.st rY24))], []⟩) .no) .no)))) .no))))) .no)))
noncomputable def foliolaw13_LayoutHits (a0 : List (List rT8)) (a1 : (List (List rT8)) × ((List rT1) × rT4)) (a2 : (List (List rT8)) × ((List rT1) × rT4)) (a3 : List ((Int) × ((Int) × (Unit)))) : Option (Bool) :=
 ((Go.Fn.foliolaw13_awake).bind fun r1 =>
   bif (!(!r1)) then bif (!(!r1)) then ((Go.Fn.layout_Rects a0)).bind fun r2 =>
   bif (!(!r1)) then bif (!(!r1)) then ((Go.Fn.folioref13_Rects a0)).bind fun r3 =>
   bif (!(!r1)) then ((Go.Fn.foliolaw13_rects r2 r3)).bind fun r4 =>
   bif (!(!r1)) then bif (!(bif (!r1) then true else (!r4))) then bif (!(bif (!r1) then true else (!r4))) then bif (!(bif (!r1) then true else (!r4))) then ((Go.Fn.layout_Same a1 a2)).bind fun r5 =>
   bif (!(bif (!r1) then true else (!r4))) then bif (!(bif (!r1) then true else (!r4))) then bif (!(bif (!r1) then true else (!r4))) then ((Go.Fn.folioref13_Same a1 a2)).bind fun r6 =>
   bif (!(bif (!r1) then true else (!r4))) then bif (!(bif (bif (!r1) then true else (!r4)) then true else (decide ((r5 : Bool) ≠ r6)))) then bif (!(bif (bif (!r1) then true else (!r4)) then true else (decide ((r5 : Bool) ≠ r6)))) then bif (!(bif (bif (!r1) then true else (!r4)) then true else (decide ((r5 : Bool) ≠ r6)))) then ((Go.Fn.layout_Same a1 a1)).bind fun r7 =>
   bif (!(bif (bif (!r1) then true else (!r4)) then true else (decide ((r5 : Bool) ≠ r6)))) then bif (!(bif (bif (bif (!r1) then true else (!r4)) then true else (decide ((r5 : Bool) ≠ r6))) then true else (!r7))) then bif (!(bif (bif (bif (!r1) then true else (!r4)) then true else (decide ((r5 : Bool) ≠ r6))) then true else (!r7))) then ((Go.Fn.layout_Show a1)).bind fun r8 =>
   bif (!(bif (bif (bif (!r1) then true else (!r4)) then true else (decide ((r5 : Bool) ≠ r6))) then true else (!r7))) then bif (!(bif (bif (bif (!r1) then true else (!r4)) then true else (decide ((r5 : Bool) ≠ r6))) then true else (!r7))) then bif (!(bif (bif (bif (!r1) then true else (!r4)) then true else (decide ((r5 : Bool) ≠ r6))) then true else (!r7))) then ((Go.Fn.folioref13_Show a1.1)).bind fun r9 =>
   ((Go.Fn.folioref09_Texts r8 r9)).bind fun r10 =>
   some ((!r10), a1)
   else some (true, a1)
   else bif (!(bif (bif (bif (!r1) then true else (!r4)) then true else (decide ((r5 : Bool) ≠ r6))) then true else (!r7))) then none
   else some (true, a1)
   else bif (!(bif (bif (bif (!r1) then true else (!r4)) then true else (decide ((r5 : Bool) ≠ r6))) then true else (!r7))) then none
   else bif (!(bif (bif (bif (!r1) then true else (!r4)) then true else (decide ((r5 : Bool) ≠ r6))) then true else (!r7))) then none
   else some (true, a1)
   else bif (!(bif (bif (bif (!r1) then true else (!r4)) then true else (decide ((r5 : Bool) ≠ r6))) then true else (!r7))) then bif (!(bif (bif (bif (!r1) then true else (!r4)) then true else (decide ((r5 : Bool) ≠ r6))) then true else (!r7))) then bif (!(bif (bif (bif (!r1) then true else (!r4)) then true else (decide ((r5 : Bool) ≠ r6))) then true else (!r7))) then ((Go.Fn.folioref13_Show a1.1)).bind fun r11 =>
   none
   else some (true, a1)
   else bif (!(bif (bif (bif (!r1) then true else (!r4)) then true else (decide ((r5 : Bool) ≠ r6))) then true else (!r7))) then none
   else some (true, a1)
   else bif (!(bif (bif (bif (!r1) then true else (!r4)) then true else (decide ((r5 : Bool) ≠ r6))) then true else (!r7))) then none
   else bif (!(bif (bif (bif (!r1) then true else (!r4)) then true else (decide ((r5 : Bool) ≠ r6))) then true else (!r7))) then none
   else some (true, a1)
   else bif (!(bif (bif (bif (!r1) then true else (!r4)) then true else (decide ((r5 : Bool) ≠ r6))) then true else (!r7))) then none
   else bif (!(bif (bif (bif (!r1) then true else (!r4)) then true else (decide ((r5 : Bool) ≠ r6))) then true else (!r7))) then bif (!(bif (bif (bif (!r1) then true else (!r4)) then true else (decide ((r5 : Bool) ≠ r6))) then true else (!r7))) then bif (!(bif (bif (bif (!r1) then true else (!r4)) then true else (decide ((r5 : Bool) ≠ r6))) then true else (!r7))) then ((Go.Fn.folioref13_Show a1.1)).bind fun r12 =>
   none
   else some (true, a1)
   else bif (!(bif (bif (bif (!r1) then true else (!r4)) then true else (decide ((r5 : Bool) ≠ r6))) then true else (!r7))) then none
   else some (true, a1)
   else bif (!(bif (bif (bif (!r1) then true else (!r4)) then true else (decide ((r5 : Bool) ≠ r6))) then true else (!r7))) then none
   else bif (!(bif (bif (bif (!r1) then true else (!r4)) then true else (decide ((r5 : Bool) ≠ r6))) then true else (!r7))) then none
   else some (true, a1)
   else bif (bif (bif (!r1) then true else (!r4)) then true else (decide ((r5 : Bool) ≠ r6))) then some (true, a1)
   else none
   else bif (!(bif (bif (!r1) then true else (!r4)) then true else (decide ((r5 : Bool) ≠ r6)))) then none
   else bif (bif (bif (!r1) then true else (!r4)) then true else (decide ((r5 : Bool) ≠ r6))) then some (true, a1)
   else none
   else bif (!(bif (bif (!r1) then true else (!r4)) then true else (decide ((r5 : Bool) ≠ r6)))) then none
   else bif (!(bif (bif (!r1) then true else (!r4)) then true else (decide ((r5 : Bool) ≠ r6)))) then none
   else bif (bif (bif (!r1) then true else (!r4)) then true else (decide ((r5 : Bool) ≠ r6))) then some (true, a1)
   else none
   else bif (!(bif (bif (!r1) then true else (!r4)) then true else (decide ((r5 : Bool) ≠ r6)))) then bif (!(bif (bif (!r1) then true else (!r4)) then true else (decide ((r5 : Bool) ≠ r6)))) then none
   else bif (!(bif (bif (!r1) then true else (!r4)) then true else (decide ((r5 : Bool) ≠ r6)))) then none
   else bif (bif (bif (!r1) then true else (!r4)) then true else (decide ((r5 : Bool) ≠ r6))) then some (true, a1)
   else none
   else bif (!(bif (bif (!r1) then true else (!r4)) then true else (decide ((r5 : Bool) ≠ r6)))) then none
   else bif (!(bif (bif (!r1) then true else (!r4)) then true else (decide ((r5 : Bool) ≠ r6)))) then none
   else bif (bif (bif (!r1) then true else (!r4)) then true else (decide ((r5 : Bool) ≠ r6))) then some (true, a1)
   else none
   else bif (bif (!r1) then true else (!r4)) then some (true, a1)
   else none
   else bif (!(bif (!r1) then true else (!r4))) then none
   else bif (bif (!r1) then true else (!r4)) then some (true, a1)
   else none
   else bif (!(bif (!r1) then true else (!r4))) then none
   else bif (!(bif (!r1) then true else (!r4))) then none
   else bif (bif (!r1) then true else (!r4)) then some (true, a1)
   else none
   else bif (!(bif (!r1) then true else (!r4))) then bif (!(bif (!r1) then true else (!r4))) then none
   else bif (!(bif (!r1) then true else (!r4))) then none
   else bif (bif (!r1) then true else (!r4)) then some (true, a1)
   else none
   else bif (!(bif (!r1) then true else (!r4))) then none
   else bif (!(bif (!r1) then true else (!r4))) then none
   else bif (bif (!r1) then true else (!r4)) then some (true, a1)
   else none
   else bif (!(bif (!r1) then true else (!r4))) then bif (!(bif (!r1) then true else (!r4))) then bif (!(bif (!r1) then true else (!r4))) then ((Go.Fn.folioref13_Same a1 a2)).bind fun r13 =>
   bif (!(bif (!r1) then true else (!r4))) then none
   else bif (bif (!r1) then true else (!r4)) then some (true, a1)
   else none
   else bif (!(bif (!r1) then true else (!r4))) then none
   else bif (bif (!r1) then true else (!r4)) then some (true, a1)
   else none
   else bif (!(bif (!r1) then true else (!r4))) then none
   else bif (!(bif (!r1) then true else (!r4))) then none
   else bif (bif (!r1) then true else (!r4)) then some (true, a1)
   else none
   else bif (!(bif (!r1) then true else (!r4))) then bif (!(bif (!r1) then true else (!r4))) then none
   else bif (!(bif (!r1) then true else (!r4))) then none
   else bif (bif (!r1) then true else (!r4)) then some (true, a1)
   else none
   else bif (!(bif (!r1) then true else (!r4))) then none
   else bif (!(bif (!r1) then true else (!r4))) then none
   else bif (bif (!r1) then true else (!r4)) then some (true, a1)
   else none
   else bif (!(bif (!r1) then true else (!r4))) then none
   else bif (!(bif (!r1) then true else (!r4))) then bif (!(bif (!r1) then true else (!r4))) then bif (!(bif (!r1) then true else (!r4))) then ((Go.Fn.folioref13_Same a1 a2)).bind fun r14 =>
   bif (!(bif (!r1) then true else (!r4))) then none
   else bif (bif (!r1) then true else (!r4)) then some (true, a1)
   else none
   else bif (!(bif (!r1) then true else (!r4))) then none
   else bif (bif (!r1) then true else (!r4)) then some (true, a1)
   else none
   else bif (!(bif (!r1) then true else (!r4))) then none
   else bif (!(bif (!r1) then true else (!r4))) then none
   else bif (bif (!r1) then true else (!r4)) then some (true, a1)
   else none
   else bif (!(bif (!r1) then true else (!r4))) then bif (!(bif (!r1) then true else (!r4))) then none
   else bif (!(bif (!r1) then true else (!r4))) then none
   else bif (bif (!r1) then true else (!r4)) then some (true, a1)
   else none
   else bif (!(bif (!r1) then true else (!r4))) then none
   else bif (!(bif (!r1) then true else (!r4))) then none
   else bif (bif (!r1) then true else (!r4)) then some (true, a1)
   else none
   else bif (!(bif (!r1) then true else (!r4))) then bif (!(bif (!r1) then true else (!r4))) then none
   else bif (!(bif (!r1) then true else (!r4))) then bif (!(bif (!r1) then true else (!r4))) then bif (!(bif (!r1) then true else (!r4))) then ((Go.Fn.folioref13_Same a1 a2)).bind fun r15 =>
   bif (!(bif (!r1) then true else (!r4))) then none
   else bif (bif (!r1) then true else (!r4)) then some (true, a1)
   else none
   else bif (!(bif (!r1) then true else (!r4))) then none
   else bif (bif (!r1) then true else (!r4)) then some (true, a1)
   else none
   else bif (!(bif (!r1) then true else (!r4))) then none
   else bif (!(bif (!r1) then true else (!r4))) then none
   else bif (bif (!r1) then true else (!r4)) then some (true, a1)
   else none
   else bif (!(bif (!r1) then true else (!r4))) then bif (!(bif (!r1) then true else (!r4))) then none
   else bif (!(bif (!r1) then true else (!r4))) then none
   else bif (bif (!r1) then true else (!r4)) then some (true, a1)
   else none
   else bif (!(bif (!r1) then true else (!r4))) then none
   else bif (!(bif (!r1) then true else (!r4))) then none
   else bif (bif (!r1) then true else (!r4)) then some (true, a1)
   else none
   else bif (!(bif (!r1) then true else (!r4))) then none
   else bif (!(bif (!r1) then true else (!r4))) then bif (!(bif (!r1) then true else (!r4))) then bif (!(bif (!r1) then true else (!r4))) then ((Go.Fn.folioref13_Same a1 a2)).bind fun r16 =>
   bif (!(bif (!r1) then true else (!r4))) then none
   else bif (bif (!r1) then true else (!r4)) then some (true, a1)
   else none
   else bif (!(bif (!r1) then true else (!r4))) then none
   else bif (bif (!r1) then true else (!r4)) then some (true, a1)
   else none
   else bif (!(bif (!r1) then true else (!r4))) then none
   else bif (!(bif (!r1) then true else (!r4))) then none
   else bif (bif (!r1) then true else (!r4)) then some (true, a1)
   else none
   else bif (!(bif (!r1) then true else (!r4))) then bif (!(bif (!r1) then true else (!r4))) then none
   else bif (!(bif (!r1) then true else (!r4))) then none
   else bif (bif (!r1) then true else (!r4)) then some (true, a1)
   else none
   else bif (!(bif (!r1) then true else (!r4))) then none
   else bif (!(bif (!r1) then true else (!r4))) then none
   else bif (bif (!r1) then true else (!r4)) then some (true, a1)
   else none
   else bif (!r1) then some (true, a1)
   else none
   else bif (!(!r1)) then none
   else bif (!r1) then some (true, a1)
   else none
   else bif (!(!r1)) then none
   else bif (!(!r1)) then none
   else bif (!r1) then some (true, a1)
   else none
   else bif (!(!r1)) then none
   else bif (!(!r1)) then none
   else bif (!(!r1)) then none
   else bif (!r1) then some (true, a1)
   else none
   else bif (!(!r1)) then bif (!(!r1)) then ((Go.Fn.folioref13_Rects a0)).bind fun r17 =>
   bif (!(!r1)) then none
   else bif (!(!r1)) then none
   else bif (!r1) then some (true, a1)
   else none
   else bif (!(!r1)) then none
   else bif (!(!r1)) then none
   else bif (!r1) then some (true, a1)
   else none
   else bif (!(!r1)) then none
   else bif (!(!r1)) then none
   else bif (!(!r1)) then none
   else bif (!r1) then some (true, a1)
   else none
   else bif (!(!r1)) then none
   else bif (!(!r1)) then bif (!(!r1)) then ((Go.Fn.folioref13_Rects a0)).bind fun r18 =>
   bif (!(!r1)) then none
   else bif (!(!r1)) then none
   else bif (!r1) then some (true, a1)
   else none
   else bif (!(!r1)) then none
   else bif (!(!r1)) then none
   else bif (!r1) then some (true, a1)
   else none
   else bif (!(!r1)) then none
   else bif (!(!r1)) then none
   else bif (!(!r1)) then none
   else bif (!r1) then some (true, a1)
   else none).bind fun r19 =>
 bif r19.1 then some false
 else (Go.Lf.loopC (σ := (Int) × rT20) (κ := (Unit) ⊕ (Bool)) (fun z20 =>
     bif (decide (z20.1 < (((List.length a3) : Nat) : Int))) then ((Go.Lf.idx a3 z20.1)).bind fun r21 =>
     ((Go.Fn.layout_Hit z20.2 r21.1 r21.2.1)).bind fun r22 =>
     ((Go.Fn.folioref13_Hit z20.2 r21.1 r21.2.1)).bind fun r23 =>
     (bif (!(decide ((r22.1 : Int) ≠ r23.1))) then some ((decide ((r22.2 : Bool) ≠ r23.2)), z20.2)
       else some (true, z20.2)).bind fun r24 =>
     bif r24.1 then some (.inr (.inr false))
     else some (.inl ((Go.IntKind.wrap .i64 (z20.1 + (1 : Int))), r24.2))
     else some (.inr (.inl ()))) ((0 : Int), r19.2) : Option ((Unit) ⊕ (Bool))).bind fun r25 =>
 Go.Lf.onSum r25 (fun a26 =>
 some true) (fun b27 =>
 some b27)
theorem foliolaw13_LayoutHits_eq (a0 : List (List rT8)) (a1 : (List (List rT8)) × ((List rT1) × rT4)) (a2 : (List (List rT8)) × ((List rT1) × rT4)) (a3 : List ((Int) × ((Int) × (Unit)))) : Go.Lf.fnE foliolaw13_LayoutHitsCtx foliolaw13_LayoutHitsCode foliolaw13_LayoutHitsAnn [.val (.sl (.sl (.st rY13))), .val (.st rY24), .val (.st rY24), .val (.sl (.st rY0))] [.bool] [.tmp 8] (a0, a1, a2, a3) = foliolaw13_LayoutHits a0 a1 a2 a3 := by kernel_rfl
noncomputable def foliolaw13_LayoutHitsEnt : Nat × Go.Lf.Entry := (3, ⟨[.val (.sl (.sl (.st rY13))), .val (.st rY24), .val (.st rY24), .val (.sl (.st rY0))], [.bool], fun z => foliolaw13_LayoutHits z.1 z.2.1 z.2.2.1 z.2.2.2⟩)
theorem foliolaw13_LayoutHits_ok : Go.Lf.EntryOk Go.Proofs.Tryd.prog GG 3 foliolaw13_LayoutHitsEnt.2 :=
  Go.Lf.fn_ok (c := foliolaw13_LayoutHitsCtx) (code := foliolaw13_LayoutHitsCode) (an := foliolaw13_LayoutHitsAnn) (slots := [.tmp 8]) (fn := Go.Proofs.Tryd.f3) (by kernel_rfl) ⟨Tys_ok, Go.Lf.FnsOk.look (.con foliolaw13_awake_ok (.con foliolaw13_rects_ok (.con layout_Rects_ok (.con folioref13_Rects_ok (.con layout_Same_ok (.con folioref13_Same_ok (.con folioref09_Texts_ok (.con layout_Show_ok (.con folioref13_Show_ok (.con layout_Hit_ok (.con folioref13_Hit_ok .nil))))))))))), Go.Lf.IpsOk.look .nil, TysEq_ok, Go.Lf.FxsOk.look .nil⟩ (by kernel_rfl) (by kernel_rfl) (by kernel_rfl) (by kernel_rfl) (by kernel_rfl) (Nat.le_of_ble_eq_true rfl) (by simp [Go.Lf.Ty.top]) (by simp [Go.Lf.Ty.top]) fun z r h => (foliolaw13_LayoutHits_eq z.1 z.2.1 z.2.2.1 z.2.2.2).trans h
end Go.Fn
/-
  Loops over lists, plainly.
-/
namespace Go.Lf
open Go
theorem wrap64 {x : Int} (h0 : -9223372036854775808 ≤ x) (h1 : x ≤ 9223372036854775807) : IntKind.wrap .i64 x = x := by
 simp only [IntKind.wrap]
 simp [IntKind.bits, IntKind.signed]
 omega
theorem wrapS {n : Nat} (h : n < 9223372036854775807) : IntKind.wrap .i64 ((n : Int) + 1) = ((n + 1 : Nat) : Int) := by
 rw [wrap64 (by omega) (by omega)]; omega
theorem idx_nat {α : Type} (l : List α) (i : Nat) : idx l (i : Int) = l[i]? := by
 unfold idx
 rw [if_pos (by omega)]; rfl
theorem sub_nat {α : Type} {l : List α} {a b : Nat} (h : a ≤ b) (hb : b ≤ l.length) : sub l (a : Int) (b : Int) = some ((l.drop a).take (b - a)) := by
 unfold sub
 rw [if_pos (by omega)]; rfl
theorem app_of {α : Type} {b : Nat} {l m : List α} (h : (l.length + m.length) * b ≤ 140737488355328) : app b l m = some (l ++ m) := if_pos h
theorem cat_of {l m : List UInt8} (h : l.length + m.length ≤ 9223372036854775807) : cat l m = some (l ++ m) := if_pos h
section
variable {α σ κ : Type}
def foldE (step : α → σ → Option (σ ⊕ κ)) (fin : σ → κ) : List α → σ → Option κ
 | [], s => some (fin s)
 | x :: r, s => (step x s).bind fun d => onSum d (foldE step fin r) some
theorem range_loop {l : List α} {B : Int × σ → Option ((Int × σ) ⊕ κ)} (step : α → σ → Option (σ ⊕ κ)) (fin : σ → κ)
  (h1 : ∀ (i : Nat) x s, l[i]? = some x → B ((i : Int), s) = (step x s).map fun d => onSum d (fun s' => .inl (((i + 1 : Nat) : Int), s')) .inr) (h2 : ∀ s, B ((l.length : Int), s) = some (.inr (fin s))) :
  ∀ (m i : Nat) (s : σ), i + m = l.length → loopC B ((i : Int), s) = foldE step fin (l.drop i) s
 | 0, i, s, h => by
  have : i = l.length := by omega
  subst this
  rw [loopC_step, h2, List.drop_length]
  rfl
 | m + 1, i, s, h => by
  have hlt : i < l.length := by omega
  rw [loopC_step, h1 i l[i] s (List.getElem?_eq_getElem hlt), List.drop_eq_getElem_cons hlt]
  unfold foldE
  cases step l[i] s with
  | none => rfl
  | some d =>
   cases d with
   | inl s' => exact range_loop step fin h1 h2 m (i + 1) s' (by omega)
   | inr k => rfl
def foldI (step : Nat → α → σ → Option (σ ⊕ κ)) (fin : σ → κ) : Nat → List α → σ → Option κ
 | _, [], s => some (fin s)
 | i, x :: r, s => (step i x s).bind fun d => onSum d (foldI step fin (i + 1) r) some
theorem range_loopI {l : List α} {B : Int × σ → Option ((Int × σ) ⊕ κ)} (step : Nat → α → σ → Option (σ ⊕ κ)) (fin : σ → κ)
  (h1 : ∀ (i : Nat) x s, l[i]? = some x → B ((i : Int), s) = (step i x s).map fun d => onSum d (fun s' => .inl (((i + 1 : Nat) : Int), s')) .inr) (h2 : ∀ s, B ((l.length : Int), s) = some (.inr (fin s))) :
  ∀ (m i : Nat) (s : σ), i + m = l.length → loopC B ((i : Int), s) = foldI step fin i (l.drop i) s
 | 0, i, s, h => by
  have : i = l.length := by omega
  subst this
  rw [loopC_step, h2, List.drop_length]
  rfl
 | m + 1, i, s, h => by
  have hlt : i < l.length := by omega
  rw [loopC_step, h1 i l[i] s (List.getElem?_eq_getElem hlt), List.drop_eq_getElem_cons hlt]
  unfold foldI
  cases step i l[i] s with
  | none => rfl
  | some d =>
   cases d with
   | inl s' => exact range_loopI step fin h1 h2 m (i + 1) s' (by omega)
   | inr k => rfl
theorem range_loopI0 {l : List α} {B : Int → Option (Int ⊕ κ)} (step : Nat → α → Option (Unit ⊕ κ)) (fin : κ)
  (h1 : ∀ (i : Nat) x, l[i]? = some x → B (i : Int) = (step i x).map fun d => onSum d (fun _ => .inl ((i + 1 : Nat) : Int)) .inr) (h2 : B (l.length : Int) = some (.inr fin)) :
  ∀ (m i : Nat), i + m = l.length → loopC B (i : Int) = foldI (fun i x (_ : Unit) => step i x) (fun _ => fin) i (l.drop i) ()
 | 0, i, h => by
  have : i = l.length := by omega
  subst this
  rw [loopC_step, h2, List.drop_length]
  rfl
 | m + 1, i, h => by
  have hlt : i < l.length := by omega
  rw [loopC_step, h1 i l[i] (List.getElem?_eq_getElem hlt), List.drop_eq_getElem_cons hlt]
  unfold foldI
  cases step i l[i] with
  | none => rfl
  | some d =>
   cases d with
   | inl s' => exact range_loopI0 step fin h1 h2 m (i + 1) (by omega)
   | inr k => rfl
theorem range_loop0 {l : List α} {B : Int → Option (Int ⊕ κ)} (step : α → Option (Unit ⊕ κ)) (fin : κ)
  (h1 : ∀ (i : Nat) x, l[i]? = some x → B (i : Int) = (step x).map fun d => onSum d (fun _ => .inl ((i + 1 : Nat) : Int)) .inr) (h2 : B (l.length : Int) = some (.inr fin)) :
  ∀ (m i : Nat), i + m = l.length → loopC B (i : Int) = foldE (fun x (_ : Unit) => step x) (fun _ => fin) (l.drop i) ()
 | 0, i, h => by
  have : i = l.length := by omega
  subst this
  rw [loopC_step, h2, List.drop_length]
  rfl
 | m + 1, i, h => by
  have hlt : i < l.length := by omega
  rw [loopC_step, h1 i l[i] (List.getElem?_eq_getElem hlt), List.drop_eq_getElem_cons hlt]
  unfold foldE
  cases step l[i] with
  | none => rfl
  | some d =>
   cases d with
   | inl s' => exact range_loop0 step fin h1 h2 m (i + 1) (by omega)
   | inr k => rfl
end
end Go.Lf
/-
  From a function's entry to a row's statement: the arguments are opened, nothing old has turned, so all reads as before.
-/
namespace Go.Lf
open Go Go.Eng Go.RowKit Go.ChangeShapes Go.WideShapes Go.ChangeMaps Go.ChangeAt
section
variable {H : Type} {enc : TypeId × Value → H} {P : Program}
def allRead (P : Program) (ts : List TypeId) : Bool := ts.all fun t => P.readableRec t && decide (t < P.types.size)
theorem trodAll_stay (hl : laidOutB P = true) {W W' : World} (hb : Below W.heap.size W W') : ∀ (ts : List TypeId) (vs : List Value) (ds : List (DataW H)) (ps : List MemPlace), allRead P ts = true →
  DataW.TrodAll enc P W 0 (fun _ => true) true ts vs ds ps → (∀ x ∈ ps, x.block < W.heap.size) → DataW.TrodAll enc P W' 0 (fun b => decide (b < W.heap.size)) true ts vs ds ps
 | [], [], [], _, _, h, _ => h
 | [], _ :: _, _, _, _, h, _ => h.elim
 | [], [], _ :: _, _, _, h, _ => h.elim
 | _ :: _, [], _, _, _, h, _ => h.elim
 | _ :: _, _ :: _, [], _, _, h, _ => h.elim
 | t :: ts, v :: vs, d :: ds, ps, hr, h, hlt => by
  obtain ⟨p, q, h1, h2, rfl⟩ := h
  simp only [allRead, List.all_cons, Bool.and_eq_true, decide_eq_true_eq] at hr
  exact ⟨p, q, Below.trod hl hr.1.1 hr.1.2 h1 hb (fun x hx => hlt x (List.mem_append_left _ hx)), trodAll_stay hl hb ts vs ds q hr.2 h2 (fun x hx => hlt x (List.mem_append_right _ hx)), rfl⟩
theorem law_post {f : Func} {s : ChangeSpec} {W W' : World} {args : Array Value} {ds gs : List (DataW H)} {before : List MemPlace} {tb : TypeId} (hl : laidOutB P = true) (hr : allRead P f.params.toList = true) (hv : s.vars = [])
  (hres : f.resultTypes = #[tb]) (htb : P.underlying tb = some .bool) (hW : DataW.Whole enc P f.params.toList s.vars false W args.toList ds gs before)
  (hs : s.fn H (ds ++ gs) = { results := [.lit (.bool true)], args := ds, vars := [] }) (hb : Below W.heap.size W W') : s.post enc P f false true false false W args (.bool true) W' := by
 have hlt : ∀ p ∈ before, p.block < W.heap.size := fun p hp => hW.lt p hp
 have hW0 := hW
 obtain ⟨p, q, hA, hV, hps, _, _⟩ := hW
 rw [hv] at hV
 obtain ⟨rfl, rfl⟩ := trodVars_none hV
 refine ⟨ds, [], before, [], p, [], hW0, ?_, ?_, ?_, hb.frame _, fun h => by cases h⟩
 ·rw [hs, hres]
  exact trodAll_mk1 (shut_bool htb true)
 ·rw [hs]
  exact trodAll_stay hl hb _ _ _ _ hr hA (fun x hx => hlt x (by rw [hps]; exact List.mem_append_left _ hx))
 ·rw [hs, hv]
  rfl
end
def start (W : World) : Cx := ⟨W, [], fun _ => none⟩
def Lasts (W : World) (I : World → Prop) : Prop := ∀ w', Below W.heap.size W w' → I w'
theorem Lasts.and {W : World} {I J : World → Prop} (h : Lasts W I) (k : Lasts W J) : Lasts W (fun w => I w ∧ J w) := fun w' hb => ⟨h w' hb, k w' hb⟩
theorem Lasts.of {W : World} {p : Prop} (h : p) : Lasts W (fun _ => p) := fun _ _ => h
theorem hb_start {W : World} {I : World → Prop} (h : Lasts W I) : Hb (start W) (start W).w0 [] I :=
 ⟨⟨rfl, rfl, rfl, Nat.le_refl _, fun _ _ _ => rfl, fun c hc => absurd hc (by simp [start]), fun c hc => absurd hc (by simp [start]), fun c hc => absurd hc (by simp), fun c hc => absurd hc (by simp), List.Pairwise.nil, fun k m hk => by cases hk⟩,
  fun w' hx => h w' ⟨hx.os, hx.tape, hx.output, hx.size, fun k hk => hx.block k hk rfl (fun c hc => absurd hc (by simp))⟩⟩
theorem cell_lt {W : World} {a : Addr} {v : Value} (h : W.cell? a = some v) : a.block < W.heap.size := by
 rcases Nat.lt_or_ge a.block W.heap.size with h1 | h1
 ·exact h1
 ·simp [World.cell?, Array.getElem?_eq_none h1] at h
def phiOf (W : World) : Phi := fun a => W.cell? a
theorem lasts_agree (W : World) : Lasts W (Agree (phiOf W)) := fun _ hb a _ h => (hb.cell (cell_lt h)).trans h
theorem lasts_var {P : Program} {W : World} {name : String} {cs : Array Value} (h : W.var? P name = some cs) : Lasts W (fun w => w.var? P name = some cs) := fun w' hb => by
 unfold World.var? at *
 cases hg : P.globalNamed name with
 | none => rw [hg] at h; simp at h
 | some g =>
  rw [hg] at h
  simp only [Option.bind_some] at *
  by_cases hlt : g < W.heap.size
  ·rw [hb.block g hlt]; exact h
  ·rw [Array.getElem?_eq_none (by omega)] at h; simp at h
theorem law_calls {P : Program} {G : World → Prop} {f : Nat} {e : Entry} {z : prodT (e.ps.map Par.ty)} {W : World} {vals : List Value} (he : EntryOk P G f e) (hr : e.rs = [.bool]) (ho : outs e.ps = []) {r : prodT (e.rs ++ outs e.ps)} (hz : e.f z = some r) (ht : unProd (e.rs ++ outs e.ps) r = [⟨.bool, true⟩])
  (ha : ArgsR (phiOf W) e.ps z vals [] []) (hG : Lasts W G) : Calls P f vals.toArray W fun e W' => e = .returned (.bool true) ∧ Below W.heap.size W W' := by
 refine Calls.mono (he.ok z r hz (start W) (phiOf W) vals [] [] ha (hb_start (hG.and (lasts_agree W)))) ?_
 rintro x w' ⟨v, φ', h1, h2, rfl, _, hb, ⟨vs, hv, rfl⟩, _⟩
 rw [ht, hr] at hv
 refine ⟨?_, hb.hp.os, hb.hp.tape, hb.hp.output, hb.hp.size, fun k hk => hb.hp.keep k hk (by simp [start, free])⟩
 cases hv with
 | cons a1 a2 a3 =>
  cases a3
  obtain ⟨rfl, _⟩ := a2
  rfl
section
variable {H : Type} (enc : TypeId × Value → H) (P : Program) (W : World)
def Light (P : Program) (t : TypeId) (d : DataW H) : Prop := ∀ x ∈ d.weights P t, x ≤ reachBytes
end
def rnd (o a : Nat) : Nat := (o + a - 1) / a * a
def Ty.aln : Ty → Nat
 | .int k => k.bits / 8
 | .bool => 1
 | .unit => 1
 | .st t => t.aln
 | .pr a b => max a.aln b.aln
 | _ => 8
mutual
def Ty.byt : Ty → Nat
 | .int k => k.bits / 8
 | .bool => 1
 | .str => 16
 | .sl _ => 24
 | .rw _ _ => 24
 | .mr _ _ => 24
 | .it => 8
 | .itd => 8
 | .dead _ _ => 24
 | .eb _ _ => 16
 | .op _ => 8
 | .bx _ _ => 8
 | .on _ => 8
 | .bo _ _ => 8
 | .bn => 8
 | .ml _ _ _ => 24
 | .ptr _ => 8
 | .st t => rnd (t.end_ 0) t.aln
 | _ => 0
def Ty.end_ : Ty → Nat → Nat
 | .pr a b, o => b.end_ (rnd o a.aln + a.byt)
 | _, o => o
end
def Wf : (t : Ty) → t.den → Prop
 | .int k, x => k.min ≤ x ∧ x ≤ k.max
 | .str, x => List.length x ≤ 140737488351232
 | .sl t, l => List.length l * t.byt ≤ 140737488351232 ∧ ∀ x ∈ (l : List t.den), Wf t x
 | .st t, x => Wf t x
 | .pr a b, x => Wf a x.1 ∧ Wf b x.2
 | _, _ => True
def Sz : (t : Ty) → t.den → Nat
 | .str, x => List.length x
 | .sl t, l => ((l : List t.den).map (Sz t)).sum + List.length l
 | .st t, x => Sz t x
 | .pr a b, x => Sz a x.1 + Sz b x.2
 | _, _ => 0
mutual
def bulk {H : Type} : DataW H → Nat
 | .lit (.string b) => b.length
 | .slice es _ => bulkAll es + es.length
 | .agg ps => bulkAll ps
 | _ => 0
def bulkAll {H : Type} : List (DataW H) → Nat
 | [] => 0
 | d :: r => bulk d + bulkAll r
end
theorem bulkAll_map {H : Type} : ∀ l : List (DataW H), bulkAll l = (l.map bulk).sum
 | [] => rfl
 | d :: r => by
  rw [bulkAll, bulkAll_map r]; rfl
theorem sum_le2 {α β : Type} {f : α → Nat} {g : β → Nat} : ∀ {l : List α} {m : List β}, l.length = m.length → (∀ (i : Nat) x y, l[i]? = some x → m[i]? = some y → f x ≤ g y) → (l.map f).sum ≤ (m.map g).sum
 | [], [], _, _ => Nat.le_refl _
 | [], _ :: _, h, _ => by simp at h
 | _ :: _, [], h, _ => by simp at h
 | x :: l, y :: m, h, hR => by
  have h1 := hR 0 x y rfl rfl
  have h2 := sum_le2 (l := l) (m := m) (by simpa using h) fun i a b ha hb => hR (i + 1) a b (by simpa using ha) (by simpa using hb)
  simp only [List.map_cons, List.sum_cons]
  omega
def opB (P : Program) : Ty → TypeId ⊕ (List Field × Nat) → Bool
 | .int k, .inl t => match P.underlying t with | some (.int k') => decide (k = k') | _ => false
 | .bool, .inl t => match P.underlying t with | some .bool => true | _ => false
 | .str, .inl t => match P.underlying t with | some .string => true | _ => false
 | .sl a, .inl t => match P.underlying t with | some (.slice e) => Nat.beq (P.cellsOf e) a.size && Nat.blt 0 a.size && Nat.beq (P.bytesOf e) a.byt && opB P a (.inl e) | _ => false
 | .st c, .inl t => match P.underlying t with | some (.struct fs) => Nat.beq (P.cellsOf t) c.size && opB P c (.inr (fs.toList, 0)) | _ => false
 | .pr a b, .inr (f :: fs, o) => Nat.beq f.offset o && Nat.beq (P.cellsOf f.type) a.size && opB P a (.inl f.type) && opB P b (.inr (fs, o + a.size))
 | .unit, .inr ([], _) => true
 | _, _ => false
section
variable {H : Type} (enc : TypeId × Value → H) (P : Program) (W : World)
def OpnT (t : TypeId) (a : Ty) : Prop :=
 ∀ fuel cs d ps, DataW.trod enc P W 0 (fun _ => true) true fuel t cs = some (d, ps) → Light P t d → ∃ x : a.den, Rp (phiOf W) a x cs [] ∧ Wf a x ∧ Sz a x ≤ bulk d
def OpnF (size o : Nat) (fs : List Field) (a : Ty) : Prop :=
 ∀ (n : Nat) (cs : List Value) (xs : List (DataW H × List MemPlace)), cs.length = size → xs.length = fs.length →
  (∀ (i : Nat) (f : Field), fs[i]? = some f → DataW.trod enc P W 0 (fun _ => true) true n f.type ((cs.drop f.offset).take (P.cellsOf f.type)) = xs[i]?) →
  (∀ (i : Nat) (f : Field) y, fs[i]? = some f → xs[i]? = some y → Light P f.type y.1) → o + a.size = size → ∃ x : a.den, Rp (phiOf W) a x (cs.drop o) [] ∧ Wf a x ∧ Sz a x ≤ bulkAll (xs.map (·.1))
end
section
variable {H : Type} {enc : TypeId × Value → H} {P : Program} {W : World} {t e : TypeId}
theorem light_slice {es sp : List (DataW H)} (ht : P.underlying t = some (.slice e)) (hl : Light P t (.slice es sp)) : es.length * P.bytesOf e ≤ 140737488351232 ∧ ∀ d ∈ es, Light P e d := by
 unfold Light at hl
 simp only [DataW.weights, ht] at hl
 have h7 : reachBytes = 140737488351232 := by decide
 constructor
 ·have h1 := hl _ (List.mem_cons_self ..)
  have h2 : es.length * P.bytesOf e ≤ (es.length + sp.length) * P.bytesOf e := Nat.mul_le_mul_right _ (by omega)
  omega
 ·intro d hd x hx
  refine hl x (List.mem_cons_of_mem _ (List.mem_append_left _ ?_))
  clear hl
  induction es with
  | nil => cases hd
  | cons a r ih =>
   simp only [DataW.weightsAll]
   rcases List.mem_cons.1 hd with rfl | h
   ·exact List.mem_append_left _ hx
   ·exact List.mem_append_right _ (ih h)
theorem light_agg {fs : Array Field} {ds : List (DataW H)} (ht : P.underlying t = some (.struct fs)) (hl : Light P t (.agg ds)) : ∀ (i : Nat) (f : Field) y, fs.toList[i]? = some f → ds[i]? = some y → Light P f.type y := by
 unfold Light at hl
 simp only [DataW.weights, ht] at hl
 have key : ∀ (l : List Field) (ds : List (DataW H)), (∀ x ∈ DataW.weightsEach P (l.map (·.type)) ds, x ≤ reachBytes) → ∀ (i : Nat) (f : Field) y, l[i]? = some f → ds[i]? = some y → Light P f.type y := by
  intro l
  induction l with
  | nil => intro ds _ i f y h; simp at h
  | cons g r ih =>
   intro ds hl i f y hf hy
   cases ds with
   | nil => simp at hy
   | cons d q =>
    simp only [List.map_cons, DataW.weightsEach] at hl
    cases i with
    | zero =>
     simp at hf hy
     subst hf hy
     exact fun x hx => hl x (List.mem_append_left _ hx)
    | succ i => exact ih q (fun x hx => hl x (List.mem_append_right _ hx)) i f y (by simpa using hf) (by simpa using hy)
 exact key fs.toList ds hl
theorem list_choose {α : Type} {p : Nat → α → Prop} : ∀ n, (∀ i, i < n → ∃ x, p i x) → ∃ l : List α, l.length = n ∧ ∀ i x, l[i]? = some x → p i x
 | 0, _ => ⟨[], rfl, fun i x h => by simp at h⟩
 | n + 1, h => by
  obtain ⟨l, h1, h2⟩ := list_choose n (fun i hi => h i (by omega))
  obtain ⟨x, hx⟩ := h n (by omega)
  refine ⟨l ++ [x], by simp [h1], fun i y hy => ?_⟩
  by_cases hi : i < n
  ·rw [List.getElem?_append_left (by omega)] at hy; exact h2 i y hy
  ·rw [List.getElem?_append_right (by omega)] at hy
   have h3 : i = n := by
    have := (List.getElem?_eq_some_iff.1 hy).1
    simp at this; omega
   subst h3
   rw [h1, Nat.sub_self] at hy
   simp at hy
   subst hy; exact hx
theorem all2_of {α β : Type} {R : α → β → Prop} : ∀ {l : List α} {m : List β}, l.length = m.length → (∀ (i : Nat) x y, l[i]? = some x → m[i]? = some y → R x y) → All2 R l m
 | [], [], _, _ => .nil
 | [], _ :: _, h, _ => by simp at h
 | _ :: _, [], h, _ => by simp at h
 | x :: l, y :: m, h, hR => .cons (hR 0 x y rfl rfl) (all2_of (by simpa using h) fun i a b ha hb => hR (i + 1) a b (by simpa using ha) (by simpa using hb))
theorem flat_at {s : Nat} (hs : 0 < s) : ∀ (l : List (List Value)), (∀ c ∈ l, c.length = s) → ∀ (j : Nat) (v : Value), l.flatten[j]? = some v → ∃ i k c, j = i * s + k ∧ l[i]? = some c ∧ c[k]? = some v
 | [], _, j, v, h => by simp at h
 | d :: r, hl, j, v, h => by
  have h1 := hl d List.mem_cons_self
  rw [List.flatten_cons] at h
  by_cases hj : j < s
  ·rw [List.getElem?_append_left (by omega)] at h
   exact ⟨0, j, d, by omega, rfl, h⟩
  ·rw [List.getElem?_append_right (by omega), h1] at h
   obtain ⟨i, k, c, e1, e2, e3⟩ := flat_at hs r (fun c hc => hl c (List.mem_cons_of_mem _ hc)) (j - s) v h
   exact ⟨i + 1, k, c, by rw [Nat.succ_mul]; omega, by simpa using e2, e3⟩
theorem opn_ok : ∀ (a : Ty), (∀ t, opB P a (.inl t) = true → OpnT enc P W t a) ∧ (∀ fs o size, opB P a (.inr (fs, o)) = true → OpnF enc P W size o fs a)
 | .int k => by
  refine ⟨fun t h => ?_, fun fs o size h => by cases fs <;> simp [opB] at h⟩
  ·skip
   unfold opB at h
   split at h
   ·rename_i k' hu
    have h := of_decide_eq_true h
    subst h
    intro fuel cs d ps ht _
    obtain ⟨n, h1, h2, h3⟩ := DataW.trod_int hu ht
    exact ⟨n, ⟨h1, rfl⟩, by
     have h4 : k.min ≤ n ∧ n ≤ k.max := by simpa [Lit.wf] using h3
     exact ⟨h4, Nat.zero_le _⟩⟩
   ·cases h
 | .bool => by
  refine ⟨fun t h => ?_, fun fs o size h => by cases fs <;> simp [opB] at h⟩
  ·skip
   unfold opB at h
   split at h
   ·rename_i hu
    intro fuel cs d ps ht _
    cases fuel with
    | zero => simp [DataW.trod] at ht
    | succ n =>
     unfold DataW.trod at ht
     rw [hu] at ht
     split at ht <;> simp_all [Rp, Wf, Sz]
   ·cases h
 | .str => by
  refine ⟨fun t h => ?_, fun fs o size h => by cases fs <;> simp [opB] at h⟩
  ·skip
   unfold opB at h
   split at h
   ·rename_i hu
    intro fuel cs d ps ht hl
    obtain ⟨s, h1, h2, h3⟩ := DataW.trod_string hu ht
    injection h2 with h4 h5
    subst h4
    refine ⟨s.data.toList, ⟨by rw [h1], rfl⟩, ?_⟩
    have h6 := hl s.data.toList.length (by simp [DataW.weights])
    have h7 : reachBytes = 140737488351232 := by decide
    refine ⟨?_, Nat.le_refl _⟩
    show s.data.toList.length ≤ _
    omega
   ·cases h
 | .unit => ⟨fun t h => by simp [opB] at h, fun fs o size h => by
   cases fs with
   | cons f r => simp [opB] at h
   | nil =>
    intro n cs xs hs _ _ _ hz
    have : o = cs.length := by rw [hs]; exact hz
    exact ⟨(), ⟨List.drop_eq_nil_of_le (by omega), rfl⟩, trivial, Nat.zero_le _⟩⟩
 | .sl a => by
  refine ⟨fun t h => ?_, fun fs o size h => by cases fs <;> simp [opB] at h⟩
  ·skip
   unfold opB at h
   split at h
   case h_2 => cases h
   case h_1 e hu =>
   simp only [Bool.and_eq_true] at h
   obtain ⟨⟨⟨h1, h2⟩, h3⟩, h4⟩ := h
   have hn := Nat.eq_of_beq_eq_true h1
   have h0 : 0 < a.size := by simpa [Nat.blt_eq] using h2
   have hb := Nat.eq_of_beq_eq_true h3
   have he := (opn_ok a).1 e h4
   intro fuel cs d ps hd hl
   rcases DataW.trod_slice hu hd with ⟨g1, g2⟩ | ⟨ad, len, cap, elems, rest, m, _, rfl, hx, _, hlc, _, hlen, hel, _, _⟩
   ·exact ⟨([] : List a.den), ⟨none, 0, [], g1, Nat.le_refl _, .nil, fun hn => absurd hn (by simp), rfl⟩, by simp [Wf], Nat.zero_le _⟩
   ·injection hx with hx1 hx2
    subst hx1
    obtain ⟨hl1, hl2⟩ := light_slice hu hl
    rw [List.length_map, hlen, hb] at hl1
    have each : ∀ i, i < len → ∃ q : a.den × List Value, Rp (phiOf W) a q.1 q.2 [] ∧ Wf a q.1 ∧ (∀ k u, q.2[k]? = some u → W.cell? (ad.add (i * a.size + k)) = some u) ∧ ∀ y, elems[i]? = some y → Sz a q.1 ≤ bulk y.1 := by
     intro i hi
     obtain ⟨y, hy⟩ : ∃ y, elems[i]? = some y := ⟨_, List.getElem?_eq_getElem (by omega)⟩
     have h3 := hel i hi
     rw [hy, hn, Option.bind_eq_some_iff] at h3
     obtain ⟨cs', h4, h5⟩ := h3
     obtain ⟨y1, y2⟩ := y
     obtain ⟨x, h6, h7, h7b⟩ := he m cs' y1 y2 h5 (hl2 y1 (List.mem_map.2 ⟨(y1, y2), List.mem_of_getElem? hy, rfl⟩))
     obtain ⟨_, h8, h9⟩ := World.cells?_some h4
     refine ⟨(x, cs'), h6, h7, fun k u hu => ?_, fun y' hy' => (by rw [hy] at hy'; injection hy' with hy'; rw [← hy']; exact h7b)⟩
     have hk : k < a.size := by rw [← h6.len]; exact (List.getElem?_eq_some_iff.1 hu).1
     have := h9 k hk
     rw [hu, add_add'] at this
     exact this
    obtain ⟨l, h10, h11⟩ := list_choose len each
    have hll : (l.map (·.1)).length = len := by rw [List.length_map, h10]
    have hall : All2 (fun x cs => Rp (phiOf W) a x cs []) (l.map (·.1)) (l.map (·.2)) := all2_of (by simp) fun i x y hx hy => by
     rw [List.getElem?_map] at hx hy
     cases hq : l[i]? with
     | none => rw [hq] at hx; cases hx
     | some q =>
      rw [hq] at hx hy
      simp only [Option.map_some, Option.some.injEq] at hx hy
      subst hx hy
      exact (h11 i q hq).1
    refine ⟨l.map (·.1), ⟨some ad, cap, l.map (·.2), ?_, ?_, hall, fun _ => ⟨ad, rfl, fun j v hv => ?_⟩, rfl⟩, ⟨?_, fun x hx => ?_⟩, ?_⟩
    ·show [Value.slice (some ad) len cap] = [Value.slice (some ad) (l.map (·.1)).length cap]
     rw [hll]
    ·show (l.map (·.1)).length ≤ cap
     omega
    ·obtain ⟨i, k, c, rfl, e2, e3⟩ := flat_at h0 (l.map (·.2)) (fun c hc => by
      obtain ⟨q, hq, rfl⟩ := List.mem_map.1 hc
      obtain ⟨i, hi⟩ := List.getElem?_of_mem hq
      exact (h11 i q hi).1.len) j v hv
     rw [List.getElem?_map] at e2
     cases hq : l[i]? with
     | none => rw [hq] at e2; cases e2
     | some q =>
      rw [hq] at e2
      simp only [Option.map_some, Option.some.injEq] at e2
      subst e2
      exact (h11 i q hq).2.2.1 k v e3
    ·show (l.map (·.1)).length * a.byt ≤ _
     rw [hll]; exact hl1
    ·obtain ⟨q, hq, rfl⟩ := List.mem_map.1 hx
     obtain ⟨i, hi⟩ := List.getElem?_of_mem hq
     exact (h11 i q hi).2.1
    ·show ((l.map (·.1)).map (Sz a)).sum + (l.map (·.1)).length ≤ bulkAll (elems.map (·.1)) + (elems.map (·.1)).length
     rw [bulkAll_map, hll, List.length_map, hlen]
     refine Nat.add_le_add_right (sum_le2 (by rw [hll, List.length_map, hlen]) fun i x y hx hy => ?_) _
     rw [List.getElem?_map] at hx hy
     cases hq : l[i]? with
     | none => rw [hq] at hx; cases hx
     | some q =>
      cases he2 : elems[i]? with
      | none => rw [he2] at hy; cases hy
      | some z =>
       rw [hq] at hx
       rw [he2] at hy
       simp only [Option.map_some, Option.some.injEq] at hx hy
       subst hx hy
       exact (h11 i q hq).2.2.2 z he2
 | .st c => by
  refine ⟨fun t h => ?_, fun fs o size h => by cases fs <;> simp [opB] at h⟩
  ·skip
   unfold opB at h
   split at h
   case h_2 => cases h
   case h_1 fs hu =>
   simp only [Bool.and_eq_true] at h
   have hs := Nat.eq_of_beq_eq_true h.1
   have hF := (opn_ok c).2 fs.toList 0 c.size h.2
   intro fuel cs d ps hd hl
   obtain ⟨xs, n, _, hx, hcl, hxl, hf⟩ := DataW.trod_struct hu hd
   injection hx with hx1 hx2
   subst hx1
   have hla := light_agg hu hl
   obtain ⟨x, h1, h2, h3⟩ := hF n cs xs (by rw [hcl, hs]) (by simpa using hxl) (fun i f hi => hf i f (by simpa using hi)) (fun i f y hi hy => hla i f y.1 hi (by simp [hy])) (by simp)
   have h1 : Rp (phiOf W) c x cs [] := by simpa using h1
   exact ⟨x, h1, h2, h3⟩
 | .pr a b => ⟨fun t h => by simp [opB] at h, fun fs o size h => by
   cases fs with
   | nil => simp [opB] at h
   | cons f fs =>
    unfold opB at h
    simp only [Bool.and_eq_true] at h
    obtain ⟨⟨⟨h1, h2⟩, h3⟩, h4⟩ := h
    have ho := Nat.eq_of_beq_eq_true h1
    have hm := Nat.eq_of_beq_eq_true h2
    have ha := (opn_ok a).1 _ h3
    have hb := (opn_ok b).2 fs (o + a.size) size h4
    intro n cs xs hs hxl hx hl hz
    cases xs with
    | nil => simp at hxl
    | cons y ys =>
     have h3 := hx 0 f rfl
     rw [ho, hm] at h3
     obtain ⟨y1, y2⟩ := y
     obtain ⟨x, g1, g2, g2b⟩ := ha n _ y1 y2 h3 (hl 0 f (y1, y2) rfl rfl)
     obtain ⟨z, g3, g4, g4b⟩ := hb n cs ys hs (by simpa using hxl) (fun i g hg => by simpa using hx (i + 1) g (by simpa using hg)) (fun i g y hg hy => hl (i + 1) g y (by simpa using hg) (by simpa using hy)) (by rw [← hz]; simp [Ty.size]; omega)
     refine ⟨(x, z), ⟨_, _, [], [], ?_, rfl, g1, g3⟩, ⟨g2, g4⟩, Nat.add_le_add g2b g4b⟩
     rw [← List.drop_drop, List.take_append_drop]⟩
 | .it => ⟨fun t h => by simp [opB] at h, fun fs o size h => by cases fs <;> simp [opB] at h⟩
 | .itd => ⟨fun t h => by simp [opB] at h, fun fs o size h => by cases fs <;> simp [opB] at h⟩
 | .dead _ _ => ⟨fun t h => by simp [opB] at h, fun fs o size h => by cases fs <;> simp [opB] at h⟩
 | .rw _ _ => ⟨fun t h => by simp [opB] at h, fun fs o size h => by cases fs <;> simp [opB] at h⟩
 | .mr _ _ => ⟨fun t h => by simp [opB] at h, fun fs o size h => by cases fs <;> simp [opB] at h⟩
 | .ptr _ => ⟨fun t h => by simp [opB] at h, fun fs o size h => by cases fs <;> simp [opB] at h⟩
 | .eb _ _ => ⟨fun t h => by simp [opB] at h, fun fs o size h => by cases fs <;> simp [opB] at h⟩
 | .op _ => ⟨fun t h => by simp [opB] at h, fun fs o size h => by cases fs <;> simp [opB] at h⟩
 | .bx _ _ => ⟨fun t h => by simp [opB] at h, fun fs o size h => by cases fs <;> simp [opB] at h⟩
 | .bo _ _ => ⟨fun t h => by simp [opB] at h, fun fs o size h => by cases fs <;> simp [opB] at h⟩
 | .bn => ⟨fun t h => by simp [opB] at h, fun fs o size h => by cases fs <;> simp [opB] at h⟩
 | .ml _ _ _ => ⟨fun t h => by simp [opB] at h, fun fs o size h => by cases fs <;> simp [opB] at h⟩
 | .on _ => ⟨fun t h => by simp [opB] at h, fun fs o size h => by cases fs <;> simp [opB] at h⟩
theorem light_arg {ts : List TypeId} {ds : List (DataW H)} {j : Nat} {t : TypeId} {d : DataW H} (hz : (DataW.weightsEach P ts ds).all (· ≤ reachBytes) = true) (ht : ts[j]? = some t) (hd : ds[j]? = some d) : Light P t d := by
 intro x hx
 have h1 : ∀ y ∈ DataW.weightsEach P ts ds, y ≤ reachBytes := fun y hy => by simpa using List.all_eq_true.1 hz y hy
 clear hz
 induction ts generalizing ds j with
 | nil => simp at ht
 | cons a r ih =>
  cases ds with
  | nil => simp at hd
  | cons b q =>
   simp only [DataW.weightsEach] at h1
   cases j with
   | zero =>
    simp at ht hd
    subst ht hd
    exact h1 x (List.mem_append_left _ hx)
   | succ j => exact ih (by simpa using ht) (by simpa using hd) (fun y hy => h1 y (List.mem_append_right _ hy))
theorem open_argB {a : Ty} {v : Value} {d : DataW H} {ps : List MemPlace} {base : Nat} (ha : opB P a (.inl t) = true) (hv : Value.okWide P W .any base t v) (h : DataW.Trod enc P W 0 (fun _ => true) true t v d ps) (hl : Light P t d) :
  ∃ (x : a.den) (cs : List Value), a.top = true ∧ v = sv a cs ∧ Rp (phiOf W) a x cs [] ∧ Wf a x ∧ Sz a x ≤ bulk d := by
 obtain ⟨fuel, hf⟩ := h
 obtain ⟨x, h1, h2, h2b⟩ := (opn_ok (enc := enc) (W := W) a).1 t ha fuel _ d ps hf hl
 refine ⟨x, v.cells.toList, ?_, ?_, h1, h2, h2b⟩
 ·cases a <;> first | rfl | (simp [opB] at ha; done)
 ·cases a <;> first | (simp [opB] at ha; done) | skip
  all_goals unfold opB at ha
  all_goals split at ha <;> first | (cases ha; done) | skip
  all_goals rename_i hu
  ·obtain ⟨n, rfl⟩ := okWide_int hu hv; rfl
  ·obtain ⟨n, rfl⟩ := okWide_bool hu hv; rfl
  ·obtain ⟨n, rfl⟩ := okWide_string hu hv; rfl
  ·obtain ⟨A, n, c, rfl⟩ := okWide_slice hu hv; rfl
  ·obtain ⟨cs, rfl, _⟩ := okWide_struct hu hv; rfl
theorem open_arg {a : Ty} {v : Value} {d : DataW H} {ps : List MemPlace} {base : Nat} (ha : opB P a (.inl t) = true) (hv : Value.okWide P W .any base t v) (h : DataW.Trod enc P W 0 (fun _ => true) true t v d ps) (hl : Light P t d) :
  ∃ (x : a.den) (cs : List Value), a.top = true ∧ v = sv a cs ∧ Rp (phiOf W) a x cs [] ∧ Wf a x :=
 let ⟨x, cs, h1, h2, h3, h4, _⟩ := open_argB ha hv h hl
 ⟨x, cs, h1, h2, h3, h4⟩
end
end Go.Lf
/- Chapter 13, plainly: rects, what is hit, whether two are alike, what is shown. -/
open Go Go.Lf
namespace Go.Fn
abbrev Gl := (List (UInt8)) × ((Int) × (((Int) × ((Int) × (Unit))) × ((Int) × (Unit))))
abbrev Rc := (Int) × ((Int) × ((Int) × ((Int) × (Unit))))
abbrev Tg := (Int) × ((Int) × (Unit))
abbrev Ld := (List (List Gl)) × ((List Rc) × ((List Tg) × ((Bool) × (Unit))))
theorem loop_f {τ κ : Type} {B : τ → Option (τ ⊕ κ)} (f : Nat → τ) (n : Nat) (k : κ) (h1 : ∀ i, i < n → B (f i) = some (.inl (f (i + 1)))) (h2 : B (f n) = some (.inr k)) : ∀ m i, i + m = n → loopC B (f i) = some k
  | 0, i, h => by
    have : i = n := by omega
    subst this
    rw [loopC_step, h2]; rfl
  | m + 1, i, h => by
    rw [loopC_step, h1 i (by omega)]
    exact loop_f f n k h1 h2 m (i + 1) (by omega)
theorem loop_z {τ κ : Type} {B : τ → Option (τ ⊕ κ)} (z0 : τ) (f : Nat → τ) (n : Nat) (k : κ) (h0 : f 0 = z0) (h1 : ∀ i, i < n → B (f i) = some (.inl (f (i + 1)))) (h2 : B (f n) = some (.inr k)) : loopC B z0 = some k := by
  rw [← h0]
  exact loop_f f n k h1 h2 n 0 (by omega)
theorem lt_dec {i n : Nat} (h : i < n) : decide ((i : Int) < (n : Int)) = true := decide_eq_true (by omega)
theorem nlt_dec {n : Nat} : decide ((n : Int) < (n : Int)) = false := decide_eq_false (by omega)
theorem chk_nat {n i : Nat} (h : i < n) : chk n (i : Int) = some i := by
  unfold chk
  rw [if_pos (by omega)]; rfl
/-- element by element -/
def eqL {α : Type} (E : α → α → Bool) : List α → List α → Bool
  | [], [] => true
  | x :: l, y :: m => E x y && eqL E l m
  | _, _ => false
theorem eqL_refl {α : Type} {E : α → α → Bool} (h : ∀ x, E x x = true) : ∀ l, eqL E l l = true
  | [] => rfl
  | x :: l => by unfold eqL; rw [h, eqL_refl h l]; rfl
theorem eqL_len {α : Type} {E : α → α → Bool} : ∀ {l m : List α}, eqL E l m = true → l.length = m.length
  | [], [], _ => rfl
  | x :: l, y :: m, h => by
    unfold eqL at h
    rw [Bool.and_eq_true] at h
    rw [List.length_cons, List.length_cons, eqL_len h.2]
  | [], _ :: _, h => by cases h
  | _ :: _, [], h => by cases h
theorem eq_loop {τ κ α : Type} (f : Nat → τ) (B : τ → Option (τ ⊕ (κ ⊕ Bool))) (fin : κ) (l m : List α) (h : l.length = m.length) (E : α → α → Bool)
    (h1 : ∀ i x y, i < l.length → l[i]? = some x → m[i]? = some y → B (f i) = some (bif E x y then .inl (f (i + 1)) else .inr (.inr false))) (h2 : B (f l.length) = some (.inr (.inl fin))) :
    ∀ n i, i + n = l.length → loopC B (f i) = some (bif eqL E (l.drop i) (m.drop i) then .inl fin else .inr false)
  | 0, i, hi => by
    have : i = l.length := by omega
    subst this
    rw [loopC_step, h2, List.drop_length, h, List.drop_length]
    rfl
  | n + 1, i, hi => by
    have hl : i < l.length := by omega
    have hm : i < m.length := by omega
    rw [loopC_step, h1 i l[i] m[i] hl (List.getElem?_eq_getElem hl) (List.getElem?_eq_getElem hm), List.drop_eq_getElem_cons hl, List.drop_eq_getElem_cons hm]
    unfold eqL
    cases E l[i] m[i] with
    | true => exact eq_loop f B fin l m h E h1 h2 n (i + 1) (by omega)
    | false => rfl
def GE (r8 r10 : Gl) : Bool := (bif (decide ((r8.1 : List (UInt8)) = r10.1)) then (bif (decide ((r8.2.1 : Int) = r10.2.1)) then (bif (bif (decide ((r8.2.2.1.1 : Int) = r10.2.2.1.1)) then (bif (decide ((r8.2.2.1.2.1 : Int) = r10.2.2.1.2.1)) then true else false) else false) then (bif (decide ((r8.2.2.2.1 : Int) = r10.2.2.2.1)) then true else false) else false) else false) else false)
def RE (r2 r3 : Rc) : Bool := (bif (decide ((r2.1 : Int) = r3.1)) then (bif (decide ((r2.2.1 : Int) = r3.2.1)) then (bif (decide ((r2.2.2.1 : Int) = r3.2.2.1)) then (bif (decide ((r2.2.2.2.1 : Int) = r3.2.2.2.1)) then true else false) else false) else false) else false)
def TE (r14 r15 : Tg) : Bool := (bif (decide ((r14.1 : Int) = r15.1)) then (bif (decide ((r14.2.1 : Int) = r15.2.1)) then true else false) else false)
theorem GE_refl (x : Gl) : GE x x = true := by unfold GE; simp
theorem RE_refl (x : Rc) : RE x x = true := by unfold RE; simp
theorem TE_refl (x : Tg) : TE x x = true := by unfold TE; simp
theorem rects_self {l : List Rc} (h : l.length ≤ 1073741824) : foliolaw13_rects l l = some true := by
  unfold foliolaw13_rects
  rw [decide_eq_false (by simp)]
  show Option.bind (loopC _ (0 : Int)) _ = _
  rw [show (0 : Int) = ((0 : Nat) : Int) from rfl, eq_loop (fun i : Nat => (i : Int)) _ () l l rfl RE (fun i x y hi hx hy => by
    show (bif decide ((i : Int) < (l.length : Int)) then _ else _) = _
    cases Option.some.inj (hx.symm.trans hy)
    rw [lt_dec hi, idx_nat, hx, wrapS (by omega)]
    show (bif !(RE x x) then _ else _) = _
    cases RE x x <;> rfl) (by
    show (bif decide ((l.length : Int) < (l.length : Int)) then _ else _) = _
    rw [nlt_dec]; rfl) l.length 0 (by omega), eqL_refl RE_refl]
  rfl
theorem texts_self {l : List (List UInt8)} (h : l.length ≤ 1073741824) : folioref09_Texts l l = some true := by
  unfold folioref09_Texts folioref01_Texts
  rw [decide_eq_false (by simp)]
  show Option.bind (Option.bind (loopC _ (0 : Int)) _) _ = _
  rw [show (0 : Int) = ((0 : Nat) : Int) from rfl, eq_loop (fun i : Nat => (i : Int)) _ () l l rfl (fun x y => decide (x = y)) (fun i x y hi hx hy => by
    show (bif decide ((i : Int) < (l.length : Int)) then _ else _) = _
    cases Option.some.inj (hx.symm.trans hy)
    rw [lt_dec hi, idx_nat, hx, wrapS (by omega)]
    show (bif (decide (x ≠ x)) then _ else _) = _
    rw [decide_eq_false (by simp), decide_eq_true rfl]; rfl) (by
    show (bif decide ((l.length : Int) < (l.length : Int)) then _ else _) = _
    rw [nlt_dec]; rfl) l.length 0 (by omega), eqL_refl (E := fun x y : List UInt8 => decide (x = y)) (fun x => decide_eq_true rfl)]
  rfl
theorem line_eq {l m : List Gl} (h : l.length ≤ 1073741824) : folioref13_SameLine l m = some (eqL GE l m) := by
  unfold folioref13_SameLine
  by_cases hl : l.length = m.length
  · rw [decide_eq_false (by omega)]
    show Option.bind (loopC _ (0 : Int)) _ = _
    rw [show (0 : Int) = ((0 : Nat) : Int) from rfl, eq_loop (fun i : Nat => (i : Int)) _ () l m hl GE (fun i x y hi hx hy => by
      show (bif decide ((i : Int) < (l.length : Int)) then _ else _) = _
      rw [lt_dec hi, idx_nat, hx, idx_nat, hy, wrapS (by omega)]
      show (bif !(GE x y) then _ else _) = _
      cases GE x y <;> rfl) (by
      show (bif decide ((l.length : Int) < (l.length : Int)) then _ else _) = _
      rw [nlt_dec]; rfl) l.length 0 (by omega)]
    show Option.bind (some (bif eqL GE l m then _ else _)) _ = _
    cases eqL GE l m <;> rfl
  · rw [decide_eq_true (by omega)]
    cases e : eqL GE l m with
    | true => exact absurd (eqL_len e) hl
    | false => rfl
/-- alike -/
def sameS (a b : Ld) : Bool := eqL (eqL GE) a.1 b.1 && (eqL RE a.2.1 b.2.1 && (eqL TE a.2.2.1 b.2.2.1 && decide (a.2.2.2.1 = b.2.2.2.1)))
theorem sameS_refl (a : Ld) : sameS a a = true := by
  unfold sameS
  rw [eqL_refl (eqL_refl GE_refl), eqL_refl RE_refl, eqL_refl TE_refl, decide_eq_true rfl]; rfl
/-- a state that stays, beside a number -/
theorem eq_loopS {σ κ α : Type} (B : Int × σ → Option ((Int × σ) ⊕ (κ ⊕ Bool))) (s : σ) (fin : κ) (l m : List α) (h : l.length = m.length) (hs : l.length ≤ 1073741824) (E : α → α → Bool)
    (h1 : ∀ i x y, i < l.length → l[i]? = some x → m[i]? = some y → B ((i : Int), s) = some (bif E x y then .inl (IntKind.wrap .i64 ((i : Int) + 1), s) else .inr (.inr false))) (h2 : B ((l.length : Int), s) = some (.inr (.inl fin))) :
    loopC B ((0 : Int), s) = some (bif eqL E l m then .inl fin else .inr false) :=
  eq_loop (fun i => ((i : Int), s)) B fin l m h E (fun i x y hi hx hy => by rw [h1 i x y hi hx hy, wrapS (by omega)]) h2 l.length 0 (by omega)

theorem refsame_eq {a b : Ld} (h1 : a.1.length ≤ 1073741824) (h2 : a.2.1.length ≤ 1073741824) (h3 : a.2.2.1.length ≤ 1073741824) (h4 : ∀ l ∈ a.1, l.length ≤ 1073741824) : folioref13_Same a b = some (sameS a b) := by
  unfold folioref13_Same
  by_cases hh : a.1.length = b.1.length ∧ a.2.1.length = b.2.1.length ∧ a.2.2.1.length = b.2.2.1.length ∧ a.2.2.2.1 = b.2.2.2.1
  · obtain ⟨e1, e2, e3, e4⟩ := hh
    rw [decide_eq_false (p := ((a.1.length : Nat) : Int) ≠ ((b.1.length : Nat) : Int)) (by omega), decide_eq_false (p := ((a.2.1.length : Nat) : Int) ≠ ((b.2.1.length : Nat) : Int)) (by omega), decide_eq_false (p := ((a.2.2.1.length : Nat) : Int) ≠ ((b.2.2.1.length : Nat) : Int)) (by omega), decide_eq_false (p := a.2.2.2.1 ≠ b.2.2.2.1) (by simp [e4])]
    show Option.bind (loopC _ ((0 : Int), (b, a))) _ = _
    rw [eq_loopS (l := a.1) (m := b.1) _ (b, a) (b, a) e1 (by omega) (eqL GE) (fun i x y hi hx hy => by
      show (bif decide ((i : Int) < (a.1.length : Int)) then _ else _) = _
      rw [lt_dec hi]
      show Option.bind (idx a.1 (i : Int)) _ = _
      rw [idx_nat, hx]
      show Option.bind (idx b.1 (i : Int)) _ = _
      rw [idx_nat, hy]
      show Option.bind (folioref13_SameLine x y) _ = _
      rw [line_eq (h4 x (List.mem_of_getElem? hx))]
      show (bif !(eqL GE x y) then _ else _) = _
      cases eqL GE x y <;> rfl) (by
      show (bif decide ((a.1.length : Int) < (a.1.length : Int)) then _ else _) = _
      rw [nlt_dec]; rfl)]
    unfold sameS
    cases eqL (eqL GE) a.1 b.1 with
    | false => rfl
    | true =>
    show Option.bind (loopC _ ((0 : Int), (b, a))) _ = _
    rw [eq_loopS (l := a.2.1) (m := b.2.1) _ (b, a) (b, a) e2 (by omega) RE (fun i x y hi hx hy => by
      show (bif decide ((i : Int) < (a.2.1.length : Int)) then _ else _) = _
      rw [lt_dec hi]
      show Option.bind (idx a.2.1 (i : Int)) _ = _
      rw [idx_nat, hx]
      show Option.bind (idx b.2.1 (i : Int)) _ = _
      rw [idx_nat, hy]
      show (bif !(RE x y) then _ else _) = _
      cases RE x y <;> rfl) (by
      show (bif decide ((a.2.1.length : Int) < (a.2.1.length : Int)) then _ else _) = _
      rw [nlt_dec]; rfl)]
    cases eqL RE a.2.1 b.2.1 with
    | false => rfl
    | true =>
    show Option.bind (loopC _ ((0 : Int), (b, a))) _ = _
    rw [eq_loopS (l := a.2.2.1) (m := b.2.2.1) _ (b, a) () e3 (by omega) TE (fun i x y hi hx hy => by
      show (bif decide ((i : Int) < (a.2.2.1.length : Int)) then _ else _) = _
      rw [lt_dec hi]
      show Option.bind (idx a.2.2.1 (i : Int)) _ = _
      rw [idx_nat, hx]
      show Option.bind (idx b.2.2.1 (i : Int)) _ = _
      rw [idx_nat, hy]
      show (bif !(TE x y) then _ else _) = _
      cases TE x y <;> rfl) (by
      show (bif decide ((a.2.2.1.length : Int) < (a.2.2.1.length : Int)) then _ else _) = _
      rw [nlt_dec]; rfl)]
    rw [decide_eq_true e4]
    cases eqL TE a.2.2.1 b.2.2.1 <;> rfl
  · have hs : sameS a b = false := by
      unfold sameS
      cases q1 : eqL (eqL GE) a.1 b.1 with
      | false => rfl
      | true => cases q2 : eqL RE a.2.1 b.2.1 with
        | false => rfl
        | true => cases q3 : eqL TE a.2.2.1 b.2.2.1 with
          | false => rfl
          | true =>
            show decide (a.2.2.2.1 = b.2.2.2.1) = false
            exact decide_eq_false fun e => hh ⟨eqL_len q1, eqL_len q2, eqL_len q3, e⟩
    rw [hs]
    by_cases e1 : a.1.length = b.1.length
    · rw [decide_eq_false (p := ((a.1.length : Nat) : Int) ≠ ((b.1.length : Nat) : Int)) (by omega)]
      by_cases e2 : a.2.1.length = b.2.1.length
      · rw [decide_eq_false (p := ((a.2.1.length : Nat) : Int) ≠ ((b.2.1.length : Nat) : Int)) (by omega)]
        by_cases e3 : a.2.2.1.length = b.2.2.1.length
        · rw [decide_eq_false (p := ((a.2.2.1.length : Nat) : Int) ≠ ((b.2.2.1.length : Nat) : Int)) (by omega), decide_eq_true (p := a.2.2.2.1 ≠ b.2.2.2.1) fun e => hh ⟨e1, e2, e3, e⟩]; rfl
        · rw [decide_eq_true (p := ((a.2.2.1.length : Nat) : Int) ≠ ((b.2.2.1.length : Nat) : Int)) (by omega)]; rfl
      · rw [decide_eq_true (p := ((a.2.1.length : Nat) : Int) ≠ ((b.2.1.length : Nat) : Int)) (by omega)]; rfl
    · rw [decide_eq_true (p := ((a.1.length : Nat) : Int) ≠ ((b.1.length : Nat) : Int)) (by omega)]; rfl
theorem same_eq {a b : Ld} (h1 : a.1.length ≤ 1073741824) (h2 : a.2.1.length ≤ 1073741824) (h3 : a.2.2.1.length ≤ 1073741824) (h4 : ∀ l ∈ a.1, l.length ≤ 1073741824) : layout_Same a b = some (sameS a b) := by
  unfold layout_Same
  by_cases hh : a.1.length = b.1.length ∧ a.2.1.length = b.2.1.length ∧ a.2.2.1.length = b.2.2.1.length ∧ a.2.2.2.1 = b.2.2.2.1
  · obtain ⟨e1, e2, e3, e4⟩ := hh
    rw [decide_eq_false (p := ((a.1.length : Nat) : Int) ≠ ((b.1.length : Nat) : Int)) (by omega), decide_eq_false (p := ((a.2.1.length : Nat) : Int) ≠ ((b.2.1.length : Nat) : Int)) (by omega), decide_eq_false (p := ((a.2.2.1.length : Nat) : Int) ≠ ((b.2.2.1.length : Nat) : Int)) (by omega), decide_eq_false (p := a.2.2.2.1 ≠ b.2.2.2.1) (by simp [e4])]
    show Option.bind (loopC _ ((0 : Int), (b, a))) _ = _
    rw [eq_loopS (l := a.1) (m := b.1) _ (b, a) (b, a) e1 (by omega) (eqL GE) (fun i x y hi hx hy => by
      show (bif decide ((i : Int) < (a.1.length : Int)) then _ else _) = _
      rw [lt_dec hi]
      show Option.bind (idx a.1 (i : Int)) _ = _
      rw [idx_nat, hx]
      show Option.bind (idx b.1 (i : Int)) _ = _
      rw [idx_nat, hy]
      show (bif (decide (((x.length : Nat) : Int) ≠ ((y.length : Nat) : Int))) then _ else _) = _
      by_cases hl : x.length = y.length
      · rw [decide_eq_false (by omega)]
        show Option.bind (loopC _ ((0 : Int), (b, a))) _ = _
        rw [eq_loopS (l := x) (m := y) _ (b, a) (b, a) hl (h4 x (List.mem_of_getElem? hx)) GE (fun j u v hj hu hv => by
          show (bif decide ((j : Int) < (x.length : Int)) then _ else _) = _
          rw [lt_dec hj]
          show Option.bind (idx a.1 (i : Int)) _ = _
          rw [idx_nat, hx]
          show Option.bind (idx x (j : Int)) _ = _
          rw [idx_nat, hu]
          show Option.bind (idx b.1 (i : Int)) _ = _
          rw [idx_nat, hy]
          show Option.bind (idx y (j : Int)) _ = _
          rw [idx_nat, hv]
          show (bif !(GE u v) then _ else _) = _
          cases GE u v <;> rfl) (by
          show (bif decide ((x.length : Int) < (x.length : Int)) then _ else _) = _
          rw [nlt_dec]; rfl)]
        cases eqL GE x y <;> rfl
      · rw [decide_eq_true (by omega)]
        cases e : eqL GE x y with
        | true => exact absurd (eqL_len e) hl
        | false => rfl) (by
      show (bif decide ((a.1.length : Int) < (a.1.length : Int)) then _ else _) = _
      rw [nlt_dec]; rfl)]
    unfold sameS
    cases eqL (eqL GE) a.1 b.1 with
    | false => rfl
    | true =>
    show Option.bind (loopC _ ((0 : Int), (b, a))) _ = _
    rw [eq_loopS (l := a.2.1) (m := b.2.1) _ (b, a) (b, a) e2 (by omega) RE (fun i x y hi hx hy => by
      show (bif decide ((i : Int) < (a.2.1.length : Int)) then _ else _) = _
      rw [lt_dec hi]
      show Option.bind (idx a.2.1 (i : Int)) _ = _
      rw [idx_nat, hx]
      show Option.bind (idx b.2.1 (i : Int)) _ = _
      rw [idx_nat, hy]
      show (bif !(RE x y) then _ else _) = _
      cases RE x y <;> rfl) (by
      show (bif decide ((a.2.1.length : Int) < (a.2.1.length : Int)) then _ else _) = _
      rw [nlt_dec]; rfl)]
    cases eqL RE a.2.1 b.2.1 with
    | false => rfl
    | true =>
    show Option.bind (loopC _ ((0 : Int), (b, a))) _ = _
    rw [eq_loopS (l := a.2.2.1) (m := b.2.2.1) _ (b, a) () e3 (by omega) TE (fun i x y hi hx hy => by
      show (bif decide ((i : Int) < (a.2.2.1.length : Int)) then _ else _) = _
      rw [lt_dec hi]
      show Option.bind (idx a.2.2.1 (i : Int)) _ = _
      rw [idx_nat, hx]
      show Option.bind (idx b.2.2.1 (i : Int)) _ = _
      rw [idx_nat, hy]
      show (bif !(TE x y) then _ else _) = _
      cases TE x y <;> rfl) (by
      show (bif decide ((a.2.2.1.length : Int) < (a.2.2.1.length : Int)) then _ else _) = _
      rw [nlt_dec]; rfl)]
    rw [decide_eq_true e4]
    cases eqL TE a.2.2.1 b.2.2.1 <;> rfl
  · have hs : sameS a b = false := by
      unfold sameS
      cases q1 : eqL (eqL GE) a.1 b.1 with
      | false => rfl
      | true => cases q2 : eqL RE a.2.1 b.2.1 with
        | false => rfl
        | true => cases q3 : eqL TE a.2.2.1 b.2.2.1 with
          | false => rfl
          | true =>
            show decide (a.2.2.2.1 = b.2.2.2.1) = false
            exact decide_eq_false fun e => hh ⟨eqL_len q1, eqL_len q2, eqL_len q3, e⟩
    rw [hs]
    by_cases e1 : a.1.length = b.1.length
    · rw [decide_eq_false (p := ((a.1.length : Nat) : Int) ≠ ((b.1.length : Nat) : Int)) (by omega)]
      by_cases e2 : a.2.1.length = b.2.1.length
      · rw [decide_eq_false (p := ((a.2.1.length : Nat) : Int) ≠ ((b.2.1.length : Nat) : Int)) (by omega)]
        by_cases e3 : a.2.2.1.length = b.2.2.1.length
        · rw [decide_eq_false (p := ((a.2.2.1.length : Nat) : Int) ≠ ((b.2.2.1.length : Nat) : Int)) (by omega), decide_eq_true (p := a.2.2.2.1 ≠ b.2.2.2.1) fun e => hh ⟨e1, e2, e3, e⟩]; rfl
        · rw [decide_eq_true (p := ((a.2.2.1.length : Nat) : Int) ≠ ((b.2.2.1.length : Nat) : Int)) (by omega)]; rfl
      · rw [decide_eq_true (p := ((a.2.1.length : Nat) : Int) ≠ ((b.2.1.length : Nat) : Int)) (by omega)]; rfl
    · rw [decide_eq_true (p := ((a.1.length : Nat) : Int) ≠ ((b.1.length : Nat) : Int)) (by omega)]; rfl

theorem hit_eq (d : Ld) (r c : Int) : layout_Hit d r c = folioref13_Hit d r c := by
  unfold layout_Hit folioref13_Hit
  have e : ∀ x : Rc, decide ((x.1 : Int) = r) = decide ((r : Int) = x.1) := fun x => by
    by_cases h : x.1 = r
    · rw [decide_eq_true h, decide_eq_true h.symm]
    · rw [decide_eq_false h, decide_eq_false fun q => h q.symm]
  simp only [e]
/-- rects of a line: the column, those told, the last link -/
def bump (out : List Rc) (w : Int) : List Rc := match out.getLast? with
  | some x => out.set (out.length - 1) (x.1, (x.2.1, ((IntKind.wrap .i64 (x.2.2.1 + w)), x.2.2.2)))
  | none => out
def rstep (row : Int) (s : Int × List Rc × Int) (g : Gl) : Int × List Rc × Int :=
  (IntKind.wrap .i64 (s.1 + g.2.1), (if g.2.2.2.1 ≠ 0 then if g.2.2.2.1 = s.2.2 then bump s.2.1 g.2.1 else s.2.1 ++ [(row, (s.1, (g.2.1, (g.2.2.2.1, ()))))] else s.2.1), g.2.2.2.1)
def rline (row : Int) (out : List Rc) (l : List Gl) : Int × List Rc × Int := l.foldl (rstep row) (0, out, 0)
theorem bump_len (out : List Rc) (w : Int) : (bump out w).length = out.length := by
  unfold bump
  cases out.getLast? with
  | none => rfl
  | some x => rw [List.length_set]
theorem rline_len (row : Int) (out : List Rc) (l : List Gl) : ∀ s : Int × List Rc × Int, (l.foldl (rstep row) s).2.1.length ≤ s.2.1.length + l.length := by
  induction l with
  | nil => intro s; exact Nat.le_refl _
  | cons g r ih =>
    intro s
    rw [List.foldl_cons, List.length_cons]
    have h := ih (rstep row s g)
    have h1 : (rstep row s g).2.1.length ≤ s.2.1.length + 1 := by
      unfold rstep
      show (if g.2.2.2.1 ≠ 0 then _ else _ : List Rc).length ≤ _
      split
      · split
        · rw [bump_len]; omega
        · rw [List.length_append]; exact Nat.le_refl _
      · omega
    omega
/-- what a line's rects are at a place: not empty where the last glyph has a link -/
theorem rline_ne (row : Int) (l : List Gl) : ∀ s : Int × List Rc × Int, (s.2.2 ≠ 0 → s.2.1 ≠ []) → (l.foldl (rstep row) s).2.2 ≠ 0 → (l.foldl (rstep row) s).2.1 ≠ [] := by
  induction l with
  | nil => intro s h; exact h
  | cons g r ih =>
    intro s h
    rw [List.foldl_cons]
    refine ih _ fun hg => ?_
    have hg : g.2.2.2.1 ≠ 0 := hg
    show (if g.2.2.2.1 ≠ 0 then _ else _ : List Rc) ≠ []
    rw [if_pos hg]
    split
    · rename_i e
      have := h (by rw [← e]; exact hg)
      intro q
      have h1 := bump_len s.2.1 g.2.1
      rw [q] at h1
      exact this (List.length_eq_zero_iff.1 h1.symm)
    · simp
theorem take_succ' {α : Type} (l : List α) (i : Nat) (x : α) (h : l[i]? = some x) : l.take (i + 1) = l.take i ++ [x] := by
  rw [List.take_add_one, h]; rfl
theorem rline_succ (row : Int) (l : List Gl) (s : Int × List Rc × Int) (i : Nat) (g : Gl) (h : l[i]? = some g) : (l.take (i + 1)).foldl (rstep row) s = rstep row ((l.take i).foldl (rstep row) s) g := by
  rw [take_succ' l i g h, List.foldl_append]; rfl
theorem rline_last (row : Int) (l : List Gl) (s : Int × List Rc × Int) (i : Nat) (g : Gl) (h : l[i]? = some g) : ((l.take (i + 1)).foldl (rstep row) s).2.2 = g.2.2.2.1 := by
  rw [rline_succ row l s i g h]; rfl
/-- the last one grows -/
theorem bump_run (out : List Rc) (w : Int) (h : out ≠ []) (hl : out.length ≤ 1073741824) {β : Type} (k : List Rc → Option β) :
    ((chk (List.length out) (IntKind.wrap .i64 ((((List.length out) : Nat) : Int) - (1 : Int)))).bind fun r6 => (nth out r6).bind fun r7 => (chk (List.length out) (IntKind.wrap .i64 ((((List.length out) : Nat) : Int) - (1 : Int)))).bind fun r8 => (nth out r8).bind fun r9 => k (List.set out r8 (r9.1, (r9.2.1, ((IntKind.wrap .i64 (r7.2.2.1 + w)), r9.2.2.2))))) = k (bump out w) := by
  obtain ⟨A, x, rfl⟩ : ∃ A x, out = A ++ [x] := ⟨out.dropLast, out.getLast h, (List.dropLast_concat_getLast h).symm⟩
  have e1 : (A ++ [x]).length = A.length + 1 := by simp
  have e2 : IntKind.wrap .i64 ((((A ++ [x]).length : Nat) : Int) - 1) = (A.length : Int) := by rw [wrap64 (by omega) (by omega), e1]; omega
  have e3 : nth (A ++ [x]) A.length = some x := by unfold nth; simp
  have e4 : bump (A ++ [x]) w = (A ++ [x]).set A.length (x.1, (x.2.1, ((IntKind.wrap .i64 (x.2.2.1 + w)), x.2.2.2))) := by
    unfold bump
    rw [List.getLast?_concat]
    show (A ++ [x]).set ((A ++ [x]).length - 1) _ = _
    rw [e1]; rfl
  rw [e2, chk_nat (by omega)]
  show Option.bind (nth (A ++ [x]) A.length) _ = _
  rw [e3]
  show Option.bind (nth (A ++ [x]) A.length) _ = _
  rw [e3]
  show k _ = _
  rw [e4]
/-- rects of lines, ahead of each -/
def rout (ll : List (List Gl)) : Nat → List Rc
  | 0 => []
  | k + 1 => match ll[k]? with
    | some l => (rline (k : Int) (rout ll k) l).2.1
    | none => rout ll k

theorem rout_succ (ll : List (List Gl)) (k : Nat) (l : List Gl) (h : ll[k]? = some l) : rout ll (k + 1) = (l.foldl (rstep (k : Int)) (0, rout ll k, 0)).2.1 := by
  show (match ll[k]? with | some l => (rline (k : Int) (rout ll k) l).2.1 | none => rout ll k) = _
  rw [h]; rfl
theorem rout_len (ll : List (List Gl)) : ∀ k, k ≤ ll.length → (rout ll k).length ≤ ((ll.take k).map List.length).sum
  | 0, _ => Nat.le_refl _
  | k + 1, h => by
    have ih := rout_len ll k (by omega)
    have hk := List.getElem?_eq_getElem (l := ll) (i := k) (by omega)
    rw [rout_succ ll k _ hk, take_succ' ll k _ hk, List.map_append, List.sum_append]
    have := rline_len (k : Int) (rout ll k) ll[k] (0, rout ll k, 0)
    show _ ≤ _ + (ll[k].length + 0)
    have : ((0 : Int), rout ll k, (0 : Int)).2.1.length = (rout ll k).length := rfl
    omega
theorem sum_take {l : List Nat} : ∀ k, (l.take k).sum ≤ l.sum := by
  induction l with
  | nil => intro k; simp
  | cons x r ih =>
    intro k
    cases k with
    | zero => simp
    | succ k => rw [List.take_succ_cons, List.sum_cons, List.sum_cons]; have := ih k; omega
theorem rout_le (ll : List (List Gl)) (h : (ll.map List.length).sum ≤ 1048576) (k : Nat) (hk : k ≤ ll.length) : (rout ll k).length ≤ 1048576 := by
  have h1 := rout_len ll k hk
  have h2 := sum_take (l := ll.map List.length) k
  rw [List.map_take] at h1
  omega
theorem len_sum {ll : List (List Gl)} {l : List Gl} (hl : l ∈ ll) : l.length ≤ (ll.map List.length).sum := by
  induction ll with
  | nil => cases hl
  | cons x r ih =>
    rw [List.map_cons, List.sum_cons]
    rcases List.mem_cons.1 hl with rfl | h
    · omega
    · have := ih h; omega
theorem rects_eq (ll : List (List Gl)) (h0 : ll.length ≤ 1048576) (h : (ll.map List.length).sum ≤ 1048576) : layout_Rects ll = some (rout ll ll.length) := by
  unfold layout_Rects
  rw [loop_z (([] : List Rc), (0 : Int)) (fun k : Nat => (rout ll k, (k : Int))) ll.length (rout ll ll.length) rfl (fun k hk => by
    show (bif decide ((k : Int) < (ll.length : Int)) then _ else _) = _
    have hl := List.getElem?_eq_getElem hk
    have hle : ll[k].length ≤ 1048576 := Nat.le_trans (len_sum (List.getElem_mem hk)) h
    have hro := rout_le ll h k (by omega)
    rw [lt_dec hk, idx_nat, hl]
    show Option.bind (loopC _ ((0 : Int), ((0 : Int), (rout ll k, (0 : Int))))) _ = _
    rw [loop_z ((0 : Int), ((0 : Int), (rout ll k, (0 : Int)))) (fun i : Nat => ((i : Int), (ll[k].take i).foldl (rstep (k : Int)) (0, rout ll k, 0))) ll[k].length _ rfl (fun i hi => by
      show (bif decide ((i : Int) < (ll[k].length : Int)) then _ else _) = _
      have hg := List.getElem?_eq_getElem hi
      rw [lt_dec hi, idx_nat, hg, rline_succ _ _ _ _ _ hg]
      have hb := rline_len (k : Int) (rout ll k) (ll[k].take i) (0, rout ll k, 0)
      have hne := rline_ne (k : Int) (ll[k].take i) (0, rout ll k, 0) (fun h => absurd rfl h)
      rw [List.length_take] at hb
      revert hb hne
      generalize (ll[k].take i).foldl (rstep (k : Int)) (0, rout ll k, 0) = s
      generalize ll[k][i] = g
      intro hb hne
      have hb : s.2.1.length ≤ 2097152 := by
        have : ((0 : Int), rout ll k, (0 : Int)).2.1.length = (rout ll k).length := rfl
        omega
      show Option.bind (Option.bind (bif decide (g.2.2.2.1 ≠ 0) then some (decide (g.2.2.2.1 = s.2.2), (s.2.1, g)) else some (false, (s.2.1, g))) _) _ = _
      rw [wrapS (by omega)]
      unfold rstep
      by_cases q0 : g.2.2.2.1 ≠ 0
      · rw [decide_eq_true q0, if_pos q0]
        by_cases q1 : g.2.2.2.1 = s.2.2
        · rw [decide_eq_true q1, if_pos q1]
          have hn := hne (by rw [← q1]; exact q0)
          show Option.bind (Option.bind (chk s.2.1.length _) _) _ = _
          rw [bump_run s.2.1 g.2.1 hn (by omega) (fun o => some (o, g))]
          rfl
        · rw [decide_eq_false q1, if_neg q1]
          show Option.bind (bif decide (g.2.2.2.1 ≠ 0) then _ else _) _ = _
          rw [decide_eq_true q0]
          show Option.bind (Option.bind (app 32 s.2.1 _) _) _ = _
          rw [app_of (by show (s.2.1.length + 1) * 32 ≤ _; omega)]
          rfl
      · rw [decide_eq_false q0, if_neg q0]
        show Option.bind (bif decide (g.2.2.2.1 ≠ 0) then _ else _) _ = _
        rw [decide_eq_false q0]
        rfl) (by
      show (bif decide ((ll[k].length : Int) < (ll[k].length : Int)) then _ else _) = _
      rw [nlt_dec]; rfl)]
    show some (Sum.inl (((ll[k].take ll[k].length).foldl (rstep (k : Int)) (0, rout ll k, 0)).2.1, IntKind.wrap .i64 ((k : Int) + 1))) = _
    rw [List.take_length, wrapS (by omega), ← rout_succ ll k _ hl]) (by
    show (bif decide ((ll.length : Int) < (ll.length : Int)) then _ else _) = _
    rw [nlt_dec]; rfl)]
  rfl

theorem last_cond (row : Int) (l : List Gl) (out : List Rc) (i : Nat) (hi : i ≤ l.length) (hl : l.length ≤ 1048576) (g : Gl) (o : List Rc) (hg : g.2.2.2.1 ≠ 0) :
    (bif decide ((0 : Int) < (i : Int)) then ((idx l (IntKind.wrap .i64 ((i : Int) - (1 : Int))))).bind fun r5 => some ((decide ((r5.2.2.2.1 : Int) = g.2.2.2.1)), (o, g)) else some (false, (o, g))) = some (decide (g.2.2.2.1 = ((l.take i).foldl (rstep row) (0, out, 0)).2.2), (o, g)) := by
  cases i with
  | zero =>
    rw [decide_eq_false (p := (0 : Int) < ((0 : Nat) : Int)) (by omega)]
    show some (false, (o, g)) = some (decide (g.2.2.2.1 = 0), (o, g))
    rw [decide_eq_false hg]
  | succ j =>
    have hj := List.getElem?_eq_getElem (l := l) (i := j) (by omega)
    have e : IntKind.wrap .i64 (((j + 1 : Nat) : Int) - 1) = (j : Int) := by rw [wrap64 (by omega) (by omega)]; omega
    rw [decide_eq_true (p := (0 : Int) < ((j + 1 : Nat) : Int)) (by omega), e, idx_nat, hj, rline_last _ _ _ _ _ hj]
    show some (decide (l[j].2.2.2.1 = g.2.2.2.1), (o, g)) = some (decide (g.2.2.2.1 = l[j].2.2.2.1), (o, g))
    rw [show decide (l[j].2.2.2.1 = g.2.2.2.1) = decide (g.2.2.2.1 = l[j].2.2.2.1) from decide_eq_decide.2 eq_comm]
theorem rrects_eq (ll : List (List Gl)) (h0 : ll.length ≤ 1048576) (h : (ll.map List.length).sum ≤ 1048576) : folioref13_Rects ll = some (rout ll ll.length) := by
  unfold folioref13_Rects
  rw [loop_z (([] : List Rc), (0 : Int)) (fun k : Nat => (rout ll k, (k : Int))) ll.length (rout ll ll.length) rfl (fun k hk => by
    show (bif decide ((k : Int) < (ll.length : Int)) then _ else _) = _
    have hl := List.getElem?_eq_getElem hk
    have hle : ll[k].length ≤ 1048576 := Nat.le_trans (len_sum (List.getElem_mem hk)) h
    have hro := rout_le ll h k (by omega)
    rw [lt_dec hk, idx_nat, hl]
    show Option.bind (loopC _ ((0 : Int), ((0 : Int), rout ll k))) _ = _
    rw [loop_z ((0 : Int), ((0 : Int), rout ll k)) (fun i : Nat => ((i : Int), (((ll[k].take i).foldl (rstep (k : Int)) (0, rout ll k, 0)).1, ((ll[k].take i).foldl (rstep (k : Int)) (0, rout ll k, 0)).2.1))) ll[k].length _ rfl (fun i hi => by
      show (bif decide ((i : Int) < (ll[k].length : Int)) then _ else _) = _
      have hg := List.getElem?_eq_getElem hi
      rw [lt_dec hi, idx_nat, hg, rline_succ _ _ _ _ _ hg]
      have hb := rline_len (k : Int) (rout ll k) (ll[k].take i) (0, rout ll k, 0)
      have hne := rline_ne (k : Int) (ll[k].take i) (0, rout ll k, 0) (fun h => absurd rfl h)
      rw [List.length_take] at hb
      have hcond := fun g o hg => last_cond (k : Int) ll[k] (rout ll k) i (by omega) hle g o hg
      revert hb hne hcond
      generalize (ll[k].take i).foldl (rstep (k : Int)) (0, rout ll k, 0) = s
      generalize ll[k][i] = g
      intro hb hne hcond
      have hb : s.2.1.length ≤ 2097152 := by
        have : ((0 : Int), rout ll k, (0 : Int)).2.1.length = (rout ll k).length := rfl
        omega
      show Option.bind (Option.bind (bif decide (g.2.2.2.1 ≠ 0) then (bif decide ((0 : Int) < (i : Int)) then ((idx ll[k] (IntKind.wrap .i64 ((i : Int) - (1 : Int))))).bind fun r5 => some ((decide ((r5.2.2.2.1 : Int) = g.2.2.2.1)), (s.2.1, g)) else some (false, (s.2.1, g))) else some (false, (s.2.1, g))) _) _ = _
      rw [wrapS (by omega)]
      unfold rstep
      by_cases q0 : g.2.2.2.1 ≠ 0
      · rw [decide_eq_true q0, if_pos q0, hcond g s.2.1 q0]
        by_cases q1 : g.2.2.2.1 = s.2.2
        · rw [decide_eq_true q1, if_pos q1]
          have hn := hne (by rw [← q1]; exact q0)
          show Option.bind (Option.bind (chk s.2.1.length _) _) _ = _
          rw [bump_run s.2.1 g.2.1 hn (by omega) (fun o => some (o, g))]
          rfl
        · rw [decide_eq_false q1, if_neg q1]
          show Option.bind (bif decide (g.2.2.2.1 ≠ 0) then _ else _) _ = _
          rw [decide_eq_true q0]
          show Option.bind (Option.bind (app 32 s.2.1 _) _) _ = _
          rw [app_of (by show (s.2.1.length + 1) * 32 ≤ _; omega)]
          rfl
      · rw [decide_eq_false q0, if_neg q0]
        show Option.bind (bif decide (g.2.2.2.1 ≠ 0) then _ else _) _ = _
        rw [decide_eq_false q0]
        rfl) (by
      show (bif decide ((ll[k].length : Int) < (ll[k].length : Int)) then _ else _) = _
      rw [nlt_dec]; rfl)]
    show some (Sum.inl (((ll[k].take ll[k].length).foldl (rstep (k : Int)) (0, rout ll k, 0)).2.1, IntKind.wrap .i64 ((k : Int) + 1))) = _
    rw [List.take_length, wrapS (by omega), ← rout_succ ll k _ hl]) (by
    show (bif decide ((ll.length : Int) < (ll.length : Int)) then _ else _) = _
    rw [nlt_dec]; rfl)]
  rfl
/-- lines as texts -/
def txtL (l : List Gl) : List UInt8 := (l.map fun g => g.1).flatten
def szL (ll : List (List Gl)) : Nat := (ll.map fun l => (txtL l).length).sum
theorem txt_take (l : List Gl) (i : Nat) (g : Gl) (h : l[i]? = some g) : txtL (l.take (i + 1)) = txtL (l.take i) ++ g.1 := by
  unfold txtL
  rw [take_succ' l i g h, List.map_append, List.flatten_append]
  simp
theorem txt_take_len (l : List Gl) (i : Nat) : (txtL (l.take i)).length ≤ (txtL l).length := by
  have h : txtL l = txtL (l.take i) ++ txtL (l.drop i) := by
    unfold txtL
    rw [← List.flatten_append, ← List.map_append, List.take_append_drop]
  rw [h, List.length_append]; omega
theorem mem_sumN {α : Type} {f : α → Nat} : ∀ {l : List α} {x : α}, x ∈ l → f x ≤ (l.map f).sum
  | [], _, h => by cases h
  | a :: r, x, h => by
    rw [List.map_cons, List.sum_cons]
    rcases List.mem_cons.1 h with rfl | h
    · omega
    · have := mem_sumN (f := f) h; omega
theorem rshow_eq (ll : List (List Gl)) (h0 : ll.length ≤ 1048576) (h : (ll.map List.length).sum ≤ 1048576) (h1 : szL ll ≤ 1048576) : folioref13_Show ll = some (ll.map txtL) := by
  unfold folioref13_Show
  rw [loop_z ((0 : Int), ([] : List (List UInt8))) (fun k : Nat => ((k : Int), (ll.take k).map txtL)) ll.length (ll.map txtL) rfl (fun k hk => by
    show (bif decide ((k : Int) < (ll.length : Int)) then _ else _) = _
    have hl := List.getElem?_eq_getElem hk
    have hle : ll[k].length ≤ 1048576 := Nat.le_trans (len_sum (List.getElem_mem hk)) h
    have hsz : (txtL ll[k]).length ≤ 1048576 := Nat.le_trans (mem_sumN (f := fun l => (txtL l).length) (List.getElem_mem hk)) h1
    rw [lt_dec hk]
    show Option.bind (idx ll (k : Int)) _ = _
    rw [idx_nat, hl]
    show Option.bind (loopC _ ((0 : Int), (([] : List UInt8), (ll.take k).map txtL))) _ = _
    rw [loop_z ((0 : Int), (([] : List UInt8), (ll.take k).map txtL)) (fun i : Nat => ((i : Int), (txtL (ll[k].take i), (ll.take k).map txtL))) ll[k].length (txtL ll[k], (ll.take k).map txtL) rfl (fun i hi => by
      show (bif decide ((i : Int) < (ll[k].length : Int)) then _ else _) = _
      have hg := List.getElem?_eq_getElem hi
      have hb := txt_take_len ll[k] (i + 1)
      rw [txt_take _ _ _ hg, List.length_append] at hb
      rw [lt_dec hi]
      show Option.bind (idx ll[k] (i : Int)) _ = _
      rw [idx_nat, hg]
      show Option.bind (cat (txtL (ll[k].take i)) ll[k][i].1) _ = _
      rw [cat_of (by omega), txt_take _ _ _ hg, wrapS (by omega)]
      rfl) (by
      show (bif decide ((ll[k].length : Int) < (ll[k].length : Int)) then _ else _) = _
      rw [nlt_dec, List.take_length]; rfl)]
    show Option.bind (app 16 ((ll.take k).map txtL) [txtL ll[k]]) _ = _
    rw [app_of (by
      rw [List.length_map, List.length_take]
      show (min k ll.length + 1) * 16 ≤ _
      omega), wrapS (by omega), take_succ' ll k _ hl, List.map_append]
    rfl) (by
    show (bif decide ((ll.length : Int) < (ll.length : Int)) then _ else _) = _
    rw [nlt_dec, List.take_length]; rfl)]
  rfl
end Go.Fn
/- Chapter 13: the law of hits, plainly. -/
open Go Go.Lf
namespace Go.Fn
theorem loop_tot {κ : Type} (B : Int → Option (Int ⊕ κ)) (n : Nat) (h1 : ∀ i : Nat, i < n → B (i : Int) = some (.inl ((i + 1 : Nat) : Int)) ∨ ∃ k, B (i : Int) = some (.inr k)) (h2 : ∃ k, B (n : Int) = some (.inr k)) : ∀ m i : Nat, i + m = n → ∃ k, loopC B (i : Int) = some k
  | 0, i, h => by
    have : i = n := by omega
    subst this
    obtain ⟨k, hk⟩ := h2
    exact ⟨k, by rw [loopC_step, hk]; rfl⟩
  | m + 1, i, h => by
    rcases h1 i (by omega) with h3 | ⟨k, h3⟩
    · rw [loopC_step, h3]
      exact loop_tot B n h1 h2 m (i + 1) (by omega)
    · exact ⟨k, by rw [loopC_step, h3]; rfl⟩
theorem bind_tot {α β : Type} {x : Option α} {f : α → Option β} (h : ∃ k, x = some k) (hf : ∀ k, ∃ p, f k = some p) : ∃ p, x.bind f = some p := by
  obtain ⟨k, rfl⟩ := h
  exact hf k
theorem hit_tot (d : Ld) (r c : Int) (h : d.2.1.length ≤ 1048576) : ∃ p, folioref13_Hit d r c = some p := by
  unfold folioref13_Hit
  refine bind_tot ?_ fun k => by
    cases k with
    | inl u => exact ⟨_, rfl⟩
    | inr p => exact ⟨_, rfl⟩
  show ∃ k, loopC _ ((0 : Nat) : Int) = some k
  refine loop_tot _ d.2.1.length (fun i hi => ?_) ?_ d.2.1.length 0 (by omega)
  ·
    show (bif decide ((i : Int) < (d.2.1.length : Int)) then _ else _) = _ ∨ ∃ k, (bif decide ((i : Int) < (d.2.1.length : Int)) then _ else _) = _
    rw [lt_dec hi, idx_nat, List.getElem?_eq_getElem hi, wrapS (by omega)]
    generalize d.2.1[i] = g
    simp only [cond_true, Option.bind_some]
    cases decide ((r : Int) = g.1) with
    | false => exact .inl rfl
    | true => cases decide (g.2.1 ≤ c) with
      | false => exact .inl rfl
      | true => cases decide ((0 : Int) < g.2.2.1) with
        | false => exact .inl rfl
        | true => cases decide ((Go.IntKind.wrap .u64 ((Go.IntKind.wrap .u64 c) - (Go.IntKind.wrap .u64 g.2.1))) < (Go.IntKind.wrap .u64 g.2.2.1)) with
          | false => exact .inl rfl
          | true => exact .inr ⟨_, rfl⟩
  · refine ⟨.inl (), ?_⟩
    show (bif decide ((d.2.1.length : Int) < (d.2.1.length : Int)) then _ else _) = _
    rw [nlt_dec]; rfl
abbrev LineT : Ty := .sl (.st (.pr .str (.pr (.int .i64) (.pr (.st (.pr (.int .i64) (.pr (.int .i64) .unit))) (.pr (.int .i64) .unit)))))
theorem sz_line (l : List Gl) : l.length ≤ Sz LineT l ∧ (txtL l).length ≤ Sz LineT l := by
  have h : Sz LineT l = (l.map fun g => Sz (.st (.pr .str (.pr (.int .i64) (.pr (.st (.pr (.int .i64) (.pr (.int .i64) .unit))) (.pr (.int .i64) .unit))))) g).sum + l.length := rfl
  rw [h]
  refine ⟨by omega, ?_⟩
  suffices (txtL l).length ≤ (l.map fun g => Sz (.st (.pr .str (.pr (.int .i64) (.pr (.st (.pr (.int .i64) (.pr (.int .i64) .unit))) (.pr (.int .i64) .unit))))) g).sum by omega
  clear h
  induction l with
  | nil => exact Nat.le_refl _
  | cons g r ih =>
    rw [List.map_cons, List.sum_cons]
    have h1 : g.1.length ≤ Sz (.st (.pr .str (.pr (.int .i64) (.pr (.st (.pr (.int .i64) (.pr (.int .i64) .unit))) (.pr (.int .i64) .unit))))) g := by
      show _ ≤ g.1.length + _
      omega
    show (g.1 ++ txtL r).length ≤ _
    rw [List.length_append]; omega
theorem sz_lines (ll : List (List Gl)) : ll.length ≤ Sz (.sl LineT) ll ∧ (ll.map List.length).sum ≤ Sz (.sl LineT) ll ∧ szL ll ≤ Sz (.sl LineT) ll := by
  have h : Sz (.sl LineT) ll = (ll.map fun l => Sz LineT l).sum + ll.length := rfl
  rw [h]
  have h1 : (ll.map List.length).sum ≤ (ll.map fun l => Sz LineT l).sum ∧ szL ll ≤ (ll.map fun l => Sz LineT l).sum := by
    clear h
    induction ll with
    | nil => exact ⟨Nat.le_refl _, Nat.le_refl _⟩
    | cons l r ih =>
      have h2 := sz_line l
      unfold szL at ih ⊢
      rw [List.map_cons, List.sum_cons, List.map_cons, List.sum_cons, List.map_cons, List.sum_cons]
      omega
  omega
theorem txtL_flat (ll : List (List Gl)) : (ll.map fun l => l.map fun g => g.1).map List.flatten = ll.map txtL := by
  rw [List.map_map]; rfl
theorem flat_len (ll : List (List Gl)) : ((ll.map fun l => l.map fun g => g.1).flatten.flatten).length = szL ll := by
  unfold szL
  induction ll with
  | nil => rfl
  | cons l r ih =>
    rw [List.map_cons, List.flatten_cons, List.flatten_append, List.length_append, ih, List.map_cons, List.sum_cons]; rfl
theorem show_eq (d : Ld) (h0 : d.1.length ≤ 1048576) (h : (d.1.map List.length).sum ≤ 1048576) (h1 : szL d.1 ≤ 1048576) : layout_Show d = some (d.1.map txtL) := by
  show showF (textsOf d.1) = _
  unfold showF textsOf
  rw [if_pos ⟨by rw [List.length_map]; omega, fun l hl => by
    obtain ⟨x, hx, rfl⟩ := List.mem_map.1 hl
    have := len_sum hx
    rw [List.length_map]
    exact Nat.lt_of_le_of_lt this (by omega), by rw [flat_len]; omega⟩, txtL_flat]
theorem hits_law (aw : foliolaw13_awake = some true) (ll : List (List Gl)) (d o : Ld) (l : List Tg) (h1 : Sz (.sl LineT) ll ≤ 1048576) (h2 : Sz (.sl LineT) d.1 ≤ 1048576) (h3 : d.2.1.length ≤ 1048576) (h4 : d.2.2.1.length ≤ 1048576) (h5 : l.length ≤ 1048576) : foliolaw13_LayoutHits ll d o l = some true := by
  have s1 := sz_lines ll
  have s2 := sz_lines d.1
  have hr : (rout ll ll.length).length ≤ 1048576 := rout_le ll (by omega) _ (Nat.le_refl _)
  have hd4 : ∀ l ∈ d.1, l.length ≤ 1073741824 := fun l hl => by have := len_sum hl; omega
  unfold foliolaw13_LayoutHits
  rw [aw, rects_eq ll (by omega) (by omega), rrects_eq ll (by omega) (by omega), same_eq (a := d) (b := o) (by omega) (by omega) (by omega) hd4, refsame_eq (a := d) (b := o) (by omega) (by omega) (by omega) hd4, same_eq (a := d) (b := d) (by omega) (by omega) (by omega) hd4, sameS_refl, show_eq d (by omega) (by omega) (by omega), rshow_eq d.1 (by omega) (by omega) (by omega)]
  have e1 := rects_self (l := rout ll ll.length) (by omega)
  have e2 := texts_self (l := d.1.map txtL) (by rw [List.length_map]; omega)
  have e3 : decide (sameS d o ≠ sameS d o) = false := decide_eq_false (by simp)
  simp only [Option.bind_some, Bool.not_true, Bool.not_false, cond_true, cond_false, e1, e2, e3]
  rw [loop_z ((0 : Int), d) (fun i : Nat => ((i : Int), d)) l.length (.inl ()) rfl (fun i hi => by
    show (bif decide ((i : Int) < (l.length : Int)) then _ else _) = _
    obtain ⟨p, hp⟩ := hit_tot d l[i].1 l[i].2.1 (by omega)
    rw [lt_dec hi]
    show Option.bind (idx l (i : Int)) _ = _
    rw [idx_nat, List.getElem?_eq_getElem hi]
    show Option.bind (layout_Hit d l[i].1 l[i].2.1) _ = _
    rw [hit_eq, hp]
    show Option.bind (bif !(decide (p.1 ≠ p.1)) then some (decide (p.2 ≠ p.2), d) else some (true, d)) _ = _
    rw [decide_eq_false (p := p.1 ≠ p.1) (by simp), decide_eq_false (p := p.2 ≠ p.2) (by simp), wrapS (by omega)]
    rfl) (by
    show (bif decide ((l.length : Int) < (l.length : Int)) then _ else _) = _
    rw [nlt_dec]; rfl)]
  rfl
abbrev LaidTy : Ty := .st (.pr (.sl LineT) (.pr (.sl (.st (.pr (.int .i64) (.pr (.int .i64) (.pr (.int .i64) (.pr (.int .i64) .unit)))))) (.pr (.sl (.st (.pr (.int .i64) (.pr (.int .i64) .unit)))) (.pr .bool .unit))))
theorem hits_sz (ll : List (List Gl)) (d o : Ld) (l : List Tg) (h0 : Sz (.sl LineT) ll ≤ 1048576) (h1 : Sz LaidTy d ≤ 1048576) (_h2 : Sz LaidTy o ≤ 1048576) (h3 : Sz (.sl (.st (.pr (.int .i64) (.pr (.int .i64) .unit)))) l ≤ 1048576) : foliolaw13_LayoutHits ll d o l = some true := by
  have e1 : Sz LaidTy d = Sz (.sl LineT) d.1 + (((d.2.1.map fun x => Sz (.st (.pr (.int .i64) (.pr (.int .i64) (.pr (.int .i64) (.pr (.int .i64) .unit))))) x).sum + d.2.1.length) + (((d.2.2.1.map fun x => Sz (.st (.pr (.int .i64) (.pr (.int .i64) .unit))) x).sum + d.2.2.1.length) + (0 + 0))) := rfl
  have e3 : Sz (.sl (.st (.pr (.int .i64) (.pr (.int .i64) .unit)))) l = (l.map fun x => Sz (.st (.pr (.int .i64) (.pr (.int .i64) .unit))) x).sum + l.length := rfl
  exact hits_law awake ll d o l h0 (by omega) (by omega) (by omega) (by omega)
end Go.Fn
