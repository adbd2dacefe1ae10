import Derived.Test.YtkfcinmgebhbhaaDoorProg
import Derived.KernelRfl
import Derived.Test.YtkfcinmgebhbhaaDoorQFuel
import Derived.Test.YtkfcinmgebhbhaaDoorQLE
open Go Go.Lf
set_option maxRecDepth 10000
namespace Go.Fn
def Tys : List (Nat × Go.Lf.TyI) := [(2, ⟨(.int .i64), 0, 0⟩),
 (3, ⟨(.int .i64), 0, 0⟩),
 (4, ⟨.bool, 0, 0⟩),
 (5, ⟨(.int .u8), 0, 0⟩),
 (6, ⟨(.int .u8), 0, 0⟩),
 (7, ⟨(.st (.pr (.int .i64) (.pr (.int .i64) (.pr .bool (.pr (.int .u8) .unit))))), 0, 0⟩),
 (8, ⟨(.st (.pr (.int .i64) (.pr (.int .i64) (.pr .bool (.pr (.int .u8) .unit))))), 0, 0⟩),
 (9, ⟨.str, 0, 0⟩),
 (10, ⟨.str, 0, 0⟩),
 (11, ⟨.str, 0, 0⟩),
 (12, ⟨(.int .u64), 0, 0⟩),
 (13, ⟨(.st (.pr .str (.pr (.int .u64) .unit))), 0, 0⟩),
 (14, ⟨(.st (.pr .str (.pr (.int .u64) .unit))), 0, 0⟩),
 (21, ⟨(.int .i32), 0, 0⟩),
 (22, ⟨(.sl (.st (.pr .str (.pr .str (.pr (.st (.pr (.int .i64) (.pr (.int .i64) (.pr (.int .i64) .unit)))) .unit))))), 29, 56⟩),
 (26, ⟨(.st (.pr (.int .i64) (.pr (.int .i64) (.pr (.int .i64) .unit)))), 0, 0⟩),
 (27, ⟨(.st (.pr (.int .i64) (.pr (.int .i64) (.pr (.int .i64) .unit)))), 0, 0⟩),
 (28, ⟨(.st (.pr .str (.pr .str (.pr (.st (.pr (.int .i64) (.pr (.int .i64) (.pr (.int .i64) .unit)))) .unit)))), 0, 0⟩),
 (29, ⟨(.st (.pr .str (.pr .str (.pr (.st (.pr (.int .i64) (.pr (.int .i64) (.pr (.int .i64) .unit)))) .unit)))), 0, 0⟩),
 (30, ⟨(.int .i64), 0, 0⟩),
 (39, ⟨(.st (.pr (.int .i64) (.pr (.int .i64) .unit))), 0, 0⟩),
 (40, ⟨(.st (.pr (.int .i64) (.pr (.int .i64) .unit))), 0, 0⟩),
 (46, ⟨(.sl .str), 9, 16⟩),
 (68, ⟨(.sl (.int .i64)), 3, 8⟩),
 (89, ⟨(.st (.pr .str (.pr .str .unit))), 9, 2⟩),
 (90, ⟨(.st (.pr (.int .i64) (.pr (.int .i64) .unit))), 3, 2⟩),
 (98, ⟨(.eb 111 .unit), 0, 0⟩),
 (101, ⟨(.int .u64), 0, 0⟩),
 (107, ⟨(.int .i64), 0, 0⟩),
 (108, ⟨(.sl (.int .u8)), 5, 1⟩),
 (114, ⟨(.st (.pr (.int .u8) (.pr (.int .u8) (.pr (.int .u8) (.pr (.int .u8) (.pr (.int .u8) (.pr (.int .u8) (.pr (.int .u8) (.pr (.int .u8) (.pr (.int .u8) (.pr (.int .u8) (.pr (.int .u8) (.pr (.int .u8) (.pr (.int .u8) (.pr (.int .u8) (.pr (.int .u8) (.pr (.int .u8) (.pr (.int .u8) (.pr (.int .u8) (.pr (.int .u8) (.pr (.int .u8) (.pr (.int .u8) (.pr (.int .u8) (.pr (.int .u8) (.pr (.int .u8) .unit))))))))))))))))))))))))), 5, 24⟩),
 (115, ⟨(.int .u64), 0, 0⟩),
 (127, ⟨(.st (.pr .str (.pr .str (.pr (.eb 111 .unit) .unit)))), 0, 0⟩)]
theorem Tys_ok : ∀ id i, Go.Lf.look Tys id = some i → Go.Lf.TyOk Go.Proofs.Tryd.prog id i := Go.Lf.tysB_ok (by kernel_rfl)
noncomputable def style_ThenCtx : Go.Lf.Ctx := ⟨32, Tys, [], [], [], []⟩
noncomputable def style_ThenCode : Go.Code := (Go.Proofs.Tryd.f21.body).getD .skip
def style_ThenAnn : Go.Lf.Ann := (.seq .no (.seq .no (.seq (.join (.one .nrm ⟨[], [(4, 4, [], 0), (5, 5, [], 0)], [], [(4, 27, (.st (.pr (.int .i64) (.pr (.int .i64) (.pr (.int .i64) .unit))))), (5, 27, (.st (.pr (.int .i64) (.pr (.int .i64) (.pr (.int .i64) .unit)))))]⟩) .no) .no)))
noncomputable def style_Then (a0 : (Int) × ((Int) × ((Int) × (Unit)))) (a1 : (Int) × ((Int) × ((Int) × (Unit)))) : Option ((Int) × ((Int) × ((Int) × (Unit)))) :=
 (bif (decide ((a1.2.2.1 : Int) = (-(1 : Int)))) then some (((0 : Int), ((0 : Int), ((0 : Int), ()))), ((Go.Lf.bits .or .i64 (Go.Lf.bits .andNot .i64 a0.1 a1.2.1) a1.1), ((Go.Lf.bits .or .i64 (Go.Lf.bits .andNot .i64 a0.2.1 a1.1) a1.2.1), (a0.2.2.1, ()))))
   else some (((0 : Int), ((0 : Int), ((0 : Int), ()))), ((Go.Lf.bits .or .i64 (Go.Lf.bits .andNot .i64 a0.1 a1.2.1) a1.1), ((Go.Lf.bits .or .i64 (Go.Lf.bits .andNot .i64 a0.2.1 a1.1) a1.2.1), (a1.2.2.1, ()))))).bind fun r1 =>
 some r1.2
theorem style_Then_eq (a0 : (Int) × ((Int) × ((Int) × (Unit)))) (a1 : (Int) × ((Int) × ((Int) × (Unit)))) : Go.Lf.fnE style_ThenCtx style_ThenCode style_ThenAnn [.val (.st (.pr (.int .i64) (.pr (.int .i64) (.pr (.int .i64) .unit)))), .val (.st (.pr (.int .i64) (.pr (.int .i64) (.pr (.int .i64) .unit))))] [(.st (.pr (.int .i64) (.pr (.int .i64) (.pr (.int .i64) .unit))))] [.cell 4 27] (a0, a1) = style_Then a0 a1 := by kernel_rfl
noncomputable def style_ThenEnt : Nat × Go.Lf.Entry := (21, ⟨[.val (.st (.pr (.int .i64) (.pr (.int .i64) (.pr (.int .i64) .unit)))), .val (.st (.pr (.int .i64) (.pr (.int .i64) (.pr (.int .i64) .unit))))], [(.st (.pr (.int .i64) (.pr (.int .i64) (.pr (.int .i64) .unit))))], fun z => style_Then z.1 z.2⟩)
theorem style_Then_ok : Go.Lf.EntryOk Go.Proofs.Tryd.prog GG 21 style_ThenEnt.2 :=
  Go.Lf.fn_ok (c := style_ThenCtx) (code := style_ThenCode) (an := style_ThenAnn) (slots := [.cell 4 27]) (fn := Go.Proofs.Tryd.f21) (by kernel_rfl) ⟨Tys_ok, Go.Lf.FnsOk.look .nil⟩ (by kernel_rfl) (by kernel_rfl) (by kernel_rfl) (by kernel_rfl) (by kernel_rfl) (Nat.le_of_ble_eq_true rfl) (by simp [Go.Lf.Ty.top]) (by simp [Go.Lf.Ty.top]) fun z r h => (style_Then_eq z.1 z.2).trans h
noncomputable def folioref06_ThenCtx : Go.Lf.Ctx := ⟨32, Tys, [], [], [], []⟩
noncomputable def folioref06_ThenCode : Go.Code := (Go.Proofs.Tryd.f22.body).getD .skip
def folioref06_ThenAnn : Go.Lf.Ann := (.seq .no (.seq .no (.seq (.join (.one .nrm ⟨[], [(4, 4, [], 0), (5, 5, [], 0)], [], [(4, 27, (.st (.pr (.int .i64) (.pr (.int .i64) (.pr (.int .i64) .unit))))), (5, 27, (.st (.pr (.int .i64) (.pr (.int .i64) (.pr (.int .i64) .unit)))))]⟩) .no) .no)))
noncomputable def folioref06_Then (a0 : (Int) × ((Int) × ((Int) × (Unit)))) (a1 : (Int) × ((Int) × ((Int) × (Unit)))) : Option ((Int) × ((Int) × ((Int) × (Unit)))) :=
 (bif (decide ((a1.2.2.1 : Int) ≠ (-(1 : Int)))) then some (((0 : Int), ((0 : Int), ((0 : Int), ()))), ((Go.Lf.bits .or .i64 (Go.Lf.bits .andNot .i64 a0.1 a1.2.1) a1.1), ((Go.Lf.bits .or .i64 (Go.Lf.bits .andNot .i64 a0.2.1 a1.1) a1.2.1), (a1.2.2.1, ()))))
   else some (((0 : Int), ((0 : Int), ((0 : Int), ()))), ((Go.Lf.bits .or .i64 (Go.Lf.bits .andNot .i64 a0.1 a1.2.1) a1.1), ((Go.Lf.bits .or .i64 (Go.Lf.bits .andNot .i64 a0.2.1 a1.1) a1.2.1), (a0.2.2.1, ()))))).bind fun r1 =>
 some r1.2
theorem folioref06_Then_eq (a0 : (Int) × ((Int) × ((Int) × (Unit)))) (a1 : (Int) × ((Int) × ((Int) × (Unit)))) : Go.Lf.fnE folioref06_ThenCtx folioref06_ThenCode folioref06_ThenAnn [.val (.st (.pr (.int .i64) (.pr (.int .i64) (.pr (.int .i64) .unit)))), .val (.st (.pr (.int .i64) (.pr (.int .i64) (.pr (.int .i64) .unit))))] [(.st (.pr (.int .i64) (.pr (.int .i64) (.pr (.int .i64) .unit))))] [.cell 4 27] (a0, a1) = folioref06_Then a0 a1 := by kernel_rfl
noncomputable def folioref06_ThenEnt : Nat × Go.Lf.Entry := (22, ⟨[.val (.st (.pr (.int .i64) (.pr (.int .i64) (.pr (.int .i64) .unit)))), .val (.st (.pr (.int .i64) (.pr (.int .i64) (.pr (.int .i64) .unit))))], [(.st (.pr (.int .i64) (.pr (.int .i64) (.pr (.int .i64) .unit))))], fun z => folioref06_Then z.1 z.2⟩)
theorem folioref06_Then_ok : Go.Lf.EntryOk Go.Proofs.Tryd.prog GG 22 folioref06_ThenEnt.2 :=
  Go.Lf.fn_ok (c := folioref06_ThenCtx) (code := folioref06_ThenCode) (an := folioref06_ThenAnn) (slots := [.cell 4 27]) (fn := Go.Proofs.Tryd.f22) (by kernel_rfl) ⟨Tys_ok, Go.Lf.FnsOk.look .nil⟩ (by kernel_rfl) (by kernel_rfl) (by kernel_rfl) (by kernel_rfl) (by kernel_rfl) (Nat.le_of_ble_eq_true rfl) (by simp [Go.Lf.Ty.top]) (by simp [Go.Lf.Ty.top]) fun z r h => (folioref06_Then_eq z.1 z.2).trans h
noncomputable def foliolaw06_sameCtx : Go.Lf.Ctx := ⟨24, Tys, [], [], [], []⟩
noncomputable def foliolaw06_sameCode : Go.Code := (Go.Proofs.Tryd.f20.body).getD .skip
def foliolaw06_sameAnn : Go.Lf.Ann := (.seq .no (.seq (.join (.one .nrm ⟨[], [], [(4, .bool)], []⟩) .no) .no))
noncomputable def foliolaw06_same (a0 : (Int) × ((Int) × ((Int) × (Unit)))) (a1 : (Int) × ((Int) × ((Int) × (Unit)))) : Option (Bool) :=
 (bif (decide ((a0.1 : Int) = a1.1)) then bif (decide ((a0.2.1 : Int) = a1.2.1)) then some (decide ((a0.2.2.1 : Int) = a1.2.2.1))
   else some false
   else some false).bind fun r1 =>
 some r1
theorem foliolaw06_same_eq (a0 : (Int) × ((Int) × ((Int) × (Unit)))) (a1 : (Int) × ((Int) × ((Int) × (Unit)))) : Go.Lf.fnE foliolaw06_sameCtx foliolaw06_sameCode foliolaw06_sameAnn [.val (.st (.pr (.int .i64) (.pr (.int .i64) (.pr (.int .i64) .unit)))), .val (.st (.pr (.int .i64) (.pr (.int .i64) (.pr (.int .i64) .unit))))] [.bool] [.tmp 4] (a0, a1) = foliolaw06_same a0 a1 := by kernel_rfl
noncomputable def foliolaw06_sameEnt : Nat × Go.Lf.Entry := (20, ⟨[.val (.st (.pr (.int .i64) (.pr (.int .i64) (.pr (.int .i64) .unit)))), .val (.st (.pr (.int .i64) (.pr (.int .i64) (.pr (.int .i64) .unit))))], [.bool], fun z => foliolaw06_same z.1 z.2⟩)
theorem foliolaw06_same_ok : Go.Lf.EntryOk Go.Proofs.Tryd.prog GG 20 foliolaw06_sameEnt.2 :=
  Go.Lf.fn_ok (c := foliolaw06_sameCtx) (code := foliolaw06_sameCode) (an := foliolaw06_sameAnn) (slots := [.tmp 4]) (fn := Go.Proofs.Tryd.f20) (by kernel_rfl) ⟨Tys_ok, Go.Lf.FnsOk.look .nil⟩ (by kernel_rfl) (by kernel_rfl) (by kernel_rfl) (by kernel_rfl) (by kernel_rfl) (Nat.le_of_ble_eq_true rfl) (by simp [Go.Lf.Ty.top]) (by simp [Go.Lf.Ty.top]) fun z r h => (foliolaw06_same_eq z.1 z.2).trans h
noncomputable def style_ApplyCtx : Go.Lf.Ctx := ⟨21, Tys, [], [], [], []⟩
noncomputable def style_ApplyCode : Go.Code := (Go.Proofs.Tryd.f24.body).getD .skip
def style_ApplyAnn : Go.Lf.Ann := (.seq .no (.seq .no (.seq (.join (.one .nrm ⟨[], [(4, 4, [], 0), (2, 2, [], 0)], [], [(4, 40, (.st (.pr (.int .i64) (.pr (.int .i64) .unit)))), (2, 40, (.st (.pr (.int .i64) (.pr (.int .i64) .unit))))]⟩) .no) .no)))
noncomputable def style_Apply (a0 : (Int) × ((Int) × (Unit))) (a1 : (Int) × ((Int) × ((Int) × (Unit)))) : Option ((Int) × ((Int) × (Unit))) :=
 (bif (decide ((a1.2.2.1 : Int) ≠ (-(1 : Int)))) then some (((0 : Int), ((0 : Int), ())), ((Go.Lf.bits .andNot .i64 (Go.Lf.bits .or .i64 a0.1 a1.1) a1.2.1), (a1.2.2.1, a0.2.2)))
   else some (((0 : Int), ((0 : Int), ())), ((Go.Lf.bits .andNot .i64 (Go.Lf.bits .or .i64 a0.1 a1.1) a1.2.1), a0.2))).bind fun r1 =>
 some r1.2
theorem style_Apply_eq (a0 : (Int) × ((Int) × (Unit))) (a1 : (Int) × ((Int) × ((Int) × (Unit)))) : Go.Lf.fnE style_ApplyCtx style_ApplyCode style_ApplyAnn [.val (.st (.pr (.int .i64) (.pr (.int .i64) .unit))), .val (.st (.pr (.int .i64) (.pr (.int .i64) (.pr (.int .i64) .unit))))] [(.st (.pr (.int .i64) (.pr (.int .i64) .unit)))] [.cell 4 40] (a0, a1) = style_Apply a0 a1 := by kernel_rfl
noncomputable def style_ApplyEnt : Nat × Go.Lf.Entry := (24, ⟨[.val (.st (.pr (.int .i64) (.pr (.int .i64) .unit))), .val (.st (.pr (.int .i64) (.pr (.int .i64) (.pr (.int .i64) .unit))))], [(.st (.pr (.int .i64) (.pr (.int .i64) .unit)))], fun z => style_Apply z.1 z.2⟩)
theorem style_Apply_ok : Go.Lf.EntryOk Go.Proofs.Tryd.prog GG 24 style_ApplyEnt.2 :=
  Go.Lf.fn_ok (c := style_ApplyCtx) (code := style_ApplyCode) (an := style_ApplyAnn) (slots := [.cell 4 40]) (fn := Go.Proofs.Tryd.f24) (by kernel_rfl) ⟨Tys_ok, Go.Lf.FnsOk.look .nil⟩ (by kernel_rfl) (by kernel_rfl) (by kernel_rfl) (by kernel_rfl) (by kernel_rfl) (Nat.le_of_ble_eq_true rfl) (by simp [Go.Lf.Ty.top]) (by simp [Go.Lf.Ty.top]) fun z r h => (style_Apply_eq z.1 z.2).trans h
noncomputable def folioref06_ApplyCtx : Go.Lf.Ctx := ⟨21, Tys, [], [], [], []⟩
noncomputable def folioref06_ApplyCode : Go.Code := (Go.Proofs.Tryd.f25.body).getD .skip
def folioref06_ApplyAnn : Go.Lf.Ann := (.seq .no (.seq .no (.seq (.join (.one .nrm ⟨[], [(4, 4, [], 0), (2, 2, [], 0)], [], [(4, 40, (.st (.pr (.int .i64) (.pr (.int .i64) .unit)))), (2, 40, (.st (.pr (.int .i64) (.pr (.int .i64) .unit))))]⟩) .no) .no)))
noncomputable def folioref06_Apply (a0 : (Int) × ((Int) × (Unit))) (a1 : (Int) × ((Int) × ((Int) × (Unit)))) : Option ((Int) × ((Int) × (Unit))) :=
 (bif (decide ((a1.2.2.1 : Int) ≠ (-(1 : Int)))) then some (((0 : Int), ((0 : Int), ())), ((Go.Lf.bits .andNot .i64 (Go.Lf.bits .or .i64 a0.1 a1.1) a1.2.1), (a1.2.2.1, a0.2.2)))
   else some (((0 : Int), ((0 : Int), ())), ((Go.Lf.bits .andNot .i64 (Go.Lf.bits .or .i64 a0.1 a1.1) a1.2.1), a0.2))).bind fun r1 =>
 some r1.2
theorem folioref06_Apply_eq (a0 : (Int) × ((Int) × (Unit))) (a1 : (Int) × ((Int) × ((Int) × (Unit)))) : Go.Lf.fnE folioref06_ApplyCtx folioref06_ApplyCode folioref06_ApplyAnn [.val (.st (.pr (.int .i64) (.pr (.int .i64) .unit))), .val (.st (.pr (.int .i64) (.pr (.int .i64) (.pr (.int .i64) .unit))))] [(.st (.pr (.int .i64) (.pr (.int .i64) .unit)))] [.cell 4 40] (a0, a1) = folioref06_Apply a0 a1 := by kernel_rfl
noncomputable def folioref06_ApplyEnt : Nat × Go.Lf.Entry := (25, ⟨[.val (.st (.pr (.int .i64) (.pr (.int .i64) .unit))), .val (.st (.pr (.int .i64) (.pr (.int .i64) (.pr (.int .i64) .unit))))], [(.st (.pr (.int .i64) (.pr (.int .i64) .unit)))], fun z => folioref06_Apply z.1 z.2⟩)
theorem folioref06_Apply_ok : Go.Lf.EntryOk Go.Proofs.Tryd.prog GG 25 folioref06_ApplyEnt.2 :=
  Go.Lf.fn_ok (c := folioref06_ApplyCtx) (code := folioref06_ApplyCode) (an := folioref06_ApplyAnn) (slots := [.cell 4 40]) (fn := Go.Proofs.Tryd.f25) (by kernel_rfl) ⟨Tys_ok, Go.Lf.FnsOk.look .nil⟩ (by kernel_rfl) (by kernel_rfl) (by kernel_rfl) (by kernel_rfl) (by kernel_rfl) (Nat.le_of_ble_eq_true rfl) (by simp [Go.Lf.Ty.top]) (by simp [Go.Lf.Ty.top]) fun z r h => (folioref06_Apply_eq z.1 z.2).trans h
noncomputable def foliolaw06_lookCtx : Go.Lf.Ctx := ⟨17, Tys, [], [], [], []⟩
noncomputable def foliolaw06_lookCode : Go.Code := (Go.Proofs.Tryd.f23.body).getD .skip
def foliolaw06_lookAnn : Go.Lf.Ann := (.seq .no (.seq (.join (.one .nrm ⟨[], [], [(4, .bool)], []⟩) .no) .no))
noncomputable def foliolaw06_look (a0 : (Int) × ((Int) × (Unit))) (a1 : (Int) × ((Int) × (Unit))) : Option (Bool) :=
 (bif (decide ((a0.1 : Int) = a1.1)) then some (decide ((a0.2.1 : Int) = a1.2.1))
   else some false).bind fun r1 =>
 some r1
theorem foliolaw06_look_eq (a0 : (Int) × ((Int) × (Unit))) (a1 : (Int) × ((Int) × (Unit))) : Go.Lf.fnE foliolaw06_lookCtx foliolaw06_lookCode foliolaw06_lookAnn [.val (.st (.pr (.int .i64) (.pr (.int .i64) .unit))), .val (.st (.pr (.int .i64) (.pr (.int .i64) .unit)))] [.bool] [.tmp 4] (a0, a1) = foliolaw06_look a0 a1 := by kernel_rfl
noncomputable def foliolaw06_lookEnt : Nat × Go.Lf.Entry := (23, ⟨[.val (.st (.pr (.int .i64) (.pr (.int .i64) .unit))), .val (.st (.pr (.int .i64) (.pr (.int .i64) .unit)))], [.bool], fun z => foliolaw06_look z.1 z.2⟩)
theorem foliolaw06_look_ok : Go.Lf.EntryOk Go.Proofs.Tryd.prog GG 23 foliolaw06_lookEnt.2 :=
  Go.Lf.fn_ok (c := foliolaw06_lookCtx) (code := foliolaw06_lookCode) (an := foliolaw06_lookAnn) (slots := [.tmp 4]) (fn := Go.Proofs.Tryd.f23) (by kernel_rfl) ⟨Tys_ok, Go.Lf.FnsOk.look .nil⟩ (by kernel_rfl) (by kernel_rfl) (by kernel_rfl) (by kernel_rfl) (by kernel_rfl) (Nat.le_of_ble_eq_true rfl) (by simp [Go.Lf.Ty.top]) (by simp [Go.Lf.Ty.top]) fun z r h => (foliolaw06_look_eq z.1 z.2).trans h
noncomputable def folioref06_BaseCtx : Go.Lf.Ctx := ⟨14, Tys, [], [0], [], [(0, (.rw 29 (.st (.pr .str (.pr .str (.pr (.st (.pr (.int .i64) (.pr (.int .i64) (.pr (.int .i64) .unit)))) .unit))))))]⟩
noncomputable def folioref06_BaseCode : Go.Code := (Go.Proofs.Tryd.f12.body).getD .skip
def folioref06_BaseAnn : Go.Lf.Ann := .no
noncomputable def folioref06_Base  : Option (List ((List (UInt8)) × ((List (UInt8)) × (((Int) × ((Int) × ((Int) × (Unit)))) × (Unit))))) :=
 some ((((98 : UInt8) :: ([] : List (UInt8))), (([] : List (UInt8)), (((1 : Int), ((0 : Int), ((-(1 : Int)), ()))), ()))) :: ((((105 : UInt8) :: ([] : List (UInt8))), (([] : List (UInt8)), (((2 : Int), ((0 : Int), ((-(1 : Int)), ()))), ()))) :: ((((117 : UInt8) :: ([] : List (UInt8))), (([] : List (UInt8)), (((4 : Int), ((0 : Int), ((-(1 : Int)), ()))), ()))) :: ((((115 : UInt8) :: ([] : List (UInt8))), (([] : List (UInt8)), (((8 : Int), ((0 : Int), ((-(1 : Int)), ()))), ()))) :: ((((109 : UInt8) :: ([] : List (UInt8))), (([] : List (UInt8)), (((16 : Int), ((0 : Int), ((-(1 : Int)), ()))), ()))) :: ((((104 : UInt8) :: ([] : List (UInt8))), (([] : List (UInt8)), (((5 : Int), ((0 : Int), ((-(1 : Int)), ()))), ()))) :: ([] : List ((List (UInt8)) × ((List (UInt8)) × (((Int) × ((Int) × ((Int) × (Unit)))) × (Unit)))))))))))
theorem folioref06_Base_eq  : Go.Lf.fnE folioref06_BaseCtx folioref06_BaseCode folioref06_BaseAnn [] [(.rw 29 (.st (.pr .str (.pr .str (.pr (.st (.pr (.int .i64) (.pr (.int .i64) (.pr (.int .i64) .unit)))) .unit)))))] [.tmp 0] () = folioref06_Base  := by kernel_rfl
noncomputable def folioref06_BaseEnt : Nat × Go.Lf.Entry := (12, ⟨[], [(.rw 29 (.st (.pr .str (.pr .str (.pr (.st (.pr (.int .i64) (.pr (.int .i64) (.pr (.int .i64) .unit)))) .unit)))))], fun _ => folioref06_Base ⟩)
theorem folioref06_Base_ok : Go.Lf.EntryOk Go.Proofs.Tryd.prog GG 12 folioref06_BaseEnt.2 :=
  Go.Lf.fn_ok (c := folioref06_BaseCtx) (code := folioref06_BaseCode) (an := folioref06_BaseAnn) (slots := [.tmp 0]) (fn := Go.Proofs.Tryd.f12) (by kernel_rfl) ⟨Tys_ok, Go.Lf.FnsOk.look .nil⟩ (by kernel_rfl) (by kernel_rfl) (by kernel_rfl) (by kernel_rfl) (by kernel_rfl) (Nat.le_of_ble_eq_true rfl) (by simp [Go.Lf.Ty.top]) (by simp [Go.Lf.Ty.top]) fun z r h => (folioref06_Base_eq ).trans h
noncomputable def style_namedCtx : Go.Lf.Ctx := ⟨28, Tys, [], [], [], []⟩
noncomputable def style_namedCode : Go.Code := (Go.Proofs.Tryd.f36.body).getD .skip
def style_namedAnn : Go.Lf.Ann := (.seq .no (.seq (.seq (.join (.one .nrm ⟨[0], [], [(11, .bool)], []⟩) .no) .no) (.seq (.seq .no (.loop ⟨[0, 13], [], [(14, (.int .i64))], []⟩ (.more (.ext 0) ⟨[], [], [], []⟩ (.one .ret ⟨[], [], [(2, .bool)], []⟩)) (.seq .no (.seq .no (.seq (.seq .no (.seq (.join (.one .nrm ⟨[0, 13, 14], [], [(26, .bool)], []⟩) .no) .no)) .no))))) .no)))
noncomputable def style_named (a0 : List (UInt8)) : Option (Bool) :=
 (bif (!(decide ((((List.length a0) : Nat) : Int) < (1 : Int)))) then some (decide ((12 : Int) < (((List.length a0) : Nat) : Int)))
   else some true).bind fun r1 =>
 bif r1 then some false
 else (Go.Lf.loopC (σ := Int) (κ := (Unit) ⊕ (Bool)) (fun z2 =>
     bif (decide (z2 < (((List.length a0) : Nat) : Int))) then (((Go.Lf.idx a0 z2)).bind fun r3 =>
       bif (!(decide ((((UInt8.toNat r3) : Nat) : Int) < (97 : Int)))) then ((Go.Lf.idx a0 z2)).bind fun r4 =>
       some (decide ((122 : Int) < (((UInt8.toNat r4) : Nat) : Int)))
       else some true).bind fun r5 =>
     bif r5 then some (.inr (.inr false))
     else some (.inl (Go.IntKind.wrap .i64 (z2 + (1 : Int))))
     else some (.inr (.inl ()))) (0 : Int) : Option ((Unit) ⊕ (Bool))).bind fun r6 =>
 Go.Lf.onSum r6 (fun a7 =>
 some true) (fun b8 =>
 some b8)
theorem style_named_eq (a0 : List (UInt8)) : Go.Lf.fnE style_namedCtx style_namedCode style_namedAnn [.val .str] [.bool] [.tmp 2] (a0) = style_named a0 := by kernel_rfl
noncomputable def style_namedEnt : Nat × Go.Lf.Entry := (36, ⟨[.val .str], [.bool], fun z => style_named z⟩)
theorem style_named_ok : Go.Lf.EntryOk Go.Proofs.Tryd.prog GG 36 style_namedEnt.2 :=
  Go.Lf.fn_ok (c := style_namedCtx) (code := style_namedCode) (an := style_namedAnn) (slots := [.tmp 2]) (fn := Go.Proofs.Tryd.f36) (by kernel_rfl) ⟨Tys_ok, Go.Lf.FnsOk.look .nil⟩ (by kernel_rfl) (by kernel_rfl) (by kernel_rfl) (by kernel_rfl) (by kernel_rfl) (Nat.le_of_ble_eq_true rfl) (by simp [Go.Lf.Ty.top]) (by simp [Go.Lf.Ty.top]) fun z r h => (style_named_eq z).trans h
noncomputable def style_FindCtx : Go.Lf.Ctx := ⟨21, Tys, [], [], [], []⟩
noncomputable def style_FindCode : Go.Code := (Go.Proofs.Tryd.f18.body).getD .skip
def style_FindAnn : Go.Lf.Ann := (.seq .no (.seq (.seq .no (.loop ⟨[1, 0, 8], [], [(9, (.int .i64))], []⟩ (.more (.ext 0) ⟨[], [], [], []⟩ (.one .ret ⟨[], [], [(4, (.int .i64)), (5, .bool)], []⟩)) .no)) .no))
noncomputable def style_Find (a0 : List ((List (UInt8)) × ((List (UInt8)) × (((Int) × ((Int) × ((Int) × (Unit)))) × (Unit))))) (a1 : List (UInt8)) : Option ((Int) × (Bool)) :=
 (Go.Lf.loopC (σ := Int) (κ := (Unit) ⊕ ((Int) × (Bool))) (fun z1 =>
     bif (decide (z1 < (((List.length a0) : Nat) : Int))) then ((Go.Lf.idx a0 z1)).bind fun r2 =>
     bif (decide ((r2.1 : List (UInt8)) = a1)) then some (.inr (.inr (z1, true)))
     else some (.inl (Go.IntKind.wrap .i64 (z1 + (1 : Int))))
     else some (.inr (.inl ()))) (0 : Int) : Option ((Unit) ⊕ ((Int) × (Bool)))).bind fun r3 =>
 Go.Lf.onSum r3 (fun a4 =>
 some ((0 : Int), false)) (fun b5 =>
 some (b5.1, b5.2))
theorem style_Find_eq (a0 : List ((List (UInt8)) × ((List (UInt8)) × (((Int) × ((Int) × ((Int) × (Unit)))) × (Unit))))) (a1 : List (UInt8)) : Go.Lf.fnE style_FindCtx style_FindCode style_FindAnn [.val (.sl (.st (.pr .str (.pr .str (.pr (.st (.pr (.int .i64) (.pr (.int .i64) (.pr (.int .i64) .unit)))) .unit))))), .val .str] [(.int .i64), .bool] [.tmp 4, .tmp 5] (a0, a1) = style_Find a0 a1 := by kernel_rfl
noncomputable def style_FindEnt : Nat × Go.Lf.Entry := (18, ⟨[.val (.sl (.st (.pr .str (.pr .str (.pr (.st (.pr (.int .i64) (.pr (.int .i64) (.pr (.int .i64) .unit)))) .unit))))), .val .str], [(.int .i64), .bool], fun z => style_Find z.1 z.2⟩)
theorem style_Find_ok : Go.Lf.EntryOk Go.Proofs.Tryd.prog GG 18 style_FindEnt.2 :=
  Go.Lf.fn_ok (c := style_FindCtx) (code := style_FindCode) (an := style_FindAnn) (slots := [.tmp 4, .tmp 5]) (fn := Go.Proofs.Tryd.f18) (by kernel_rfl) ⟨Tys_ok, Go.Lf.FnsOk.look .nil⟩ (by kernel_rfl) (by kernel_rfl) (by kernel_rfl) (by kernel_rfl) (by kernel_rfl) (Nat.le_of_ble_eq_true rfl) (by simp [Go.Lf.Ty.top]) (by simp [Go.Lf.Ty.top]) fun z r h => (style_Find_eq z.1 z.2).trans h
noncomputable def style_changeCtx : Go.Lf.Ctx := ⟨41, Tys, [], [], [], []⟩
noncomputable def style_changeCode : Go.Code := (Go.Proofs.Tryd.f37.body).getD .skip
def style_changeAnn : Go.Lf.Ann := (.seq .no (.seq (.seq (.join (.one .nrm ⟨[], [(1, 1, [], 0)], [(3, .bool)], [(1, 27, (.st (.pr (.int .i64) (.pr (.int .i64) (.pr (.int .i64) .unit)))))]⟩) .no) (.cnd .no (.seq (.join (.one .nrm ⟨[], [], [(32, .bool)], []⟩) .no) .no))) .no))
noncomputable def style_change (a0 : (Int) × ((Int) × ((Int) × (Unit)))) : Option (Int) :=
 (bif (!(decide (((Go.Lf.bits .andNot .i64 a0.1 (127 : Int)) : Int) ≠ (0 : Int)))) then bif (!(decide (((Go.Lf.bits .andNot .i64 a0.2.1 (127 : Int)) : Int) ≠ (0 : Int)))) then bif (!(decide (a0.1 < (0 : Int)))) then bif (!(decide (a0.2.1 < (0 : Int)))) then some ((decide (((Go.Lf.bits .and .i64 a0.1 a0.2.1) : Int) ≠ (0 : Int))), a0)
   else some (true, a0)
   else some (true, a0)
   else some (true, a0)
   else some (true, a0)).bind fun r1 =>
 bif r1.1 then some (62 : Int)
 else (bif (!(decide (r1.2.2.2.1 < (-(1 : Int))))) then some (decide ((15 : Int) < r1.2.2.2.1))
   else some true).bind fun r2 =>
 bif r2 then some (63 : Int)
 else some (0 : Int)
theorem style_change_eq (a0 : (Int) × ((Int) × ((Int) × (Unit)))) : Go.Lf.fnE style_changeCtx style_changeCode style_changeAnn [.val (.st (.pr (.int .i64) (.pr (.int .i64) (.pr (.int .i64) .unit))))] [(.int .i64)] [.tmp 2] (a0) = style_change a0 := by kernel_rfl
noncomputable def style_changeEnt : Nat × Go.Lf.Entry := (37, ⟨[.val (.st (.pr (.int .i64) (.pr (.int .i64) (.pr (.int .i64) .unit))))], [(.int .i64)], fun z => style_change z⟩)
theorem style_change_ok : Go.Lf.EntryOk Go.Proofs.Tryd.prog GG 37 style_changeEnt.2 :=
  Go.Lf.fn_ok (c := style_changeCtx) (code := style_changeCode) (an := style_changeAnn) (slots := [.tmp 2]) (fn := Go.Proofs.Tryd.f37) (by kernel_rfl) ⟨Tys_ok, Go.Lf.FnsOk.look .nil⟩ (by kernel_rfl) (by kernel_rfl) (by kernel_rfl) (by kernel_rfl) (by kernel_rfl) (Nat.le_of_ble_eq_true rfl) (by simp [Go.Lf.Ty.top]) (by simp [Go.Lf.Ty.top]) fun z r h => (style_change_eq z).trans h
noncomputable def style_endsCtx : Go.Lf.Ctx := ⟨33, Tys, [style_FindEnt], [], [], []⟩
noncomputable def style_endsCode : Go.Code := (Go.Proofs.Tryd.f38.body).getD .skip
def style_endsAnn : Go.Lf.Ann := (.seq .no (.seq .no (.seq .no (.seq (.seq .no (.loop ⟨[0], [], [(8, (.int .i64)), (1, (.int .i64)), (5, .bool)], []⟩ (.one (.ext 0) ⟨[], [], [(5, .bool)], []⟩) (.seq .no (.seq .no (.seq (.seq .no (.seq (.seq (.join (.one .nrm ⟨[0, 5, 8, 6], [], [(29, .bool)], []⟩) .no) .no) .no)) .no))))) .no))))
noncomputable def style_ends (a0 : List ((List (UInt8)) × ((List (UInt8)) × (((Int) × ((Int) × ((Int) × (Unit)))) × (Unit))))) (a1 : Int) : Option (Bool) :=
 (Go.Lf.loopC (σ := (Int) × ((Int) × (Bool))) (κ := Bool) (fun z1 =>
     bif (decide (z1.1 < (8 : Int))) then ((Go.Lf.idx a0 z1.2.1)).bind fun r2 =>
     ((Go.Fn.style_Find a0 r2.2.1)).bind fun r3 =>
     (((Go.Lf.idx a0 z1.2.1)).bind fun r4 =>
       bif (!(decide ((r4.2.1 : List (UInt8)) = ([] : List (UInt8))))) then some (!r3.2)
       else some true).bind fun r5 =>
     bif r5 then some (.inr true)
     else some (.inl ((Go.IntKind.wrap .i64 (z1.1 + (1 : Int))), (r3.1, z1.2.2)))
     else some (.inr z1.2.2)) ((0 : Int), (a1, false)) : Option (Bool)).bind fun r6 =>
 some r6
theorem style_ends_eq (a0 : List ((List (UInt8)) × ((List (UInt8)) × (((Int) × ((Int) × ((Int) × (Unit)))) × (Unit))))) (a1 : Int) : Go.Lf.fnE style_endsCtx style_endsCode style_endsAnn [.val (.sl (.st (.pr .str (.pr .str (.pr (.st (.pr (.int .i64) (.pr (.int .i64) (.pr (.int .i64) .unit)))) .unit))))), .val (.int .i64)] [.bool] [.tmp 4] (a0, a1) = style_ends a0 a1 := by kernel_rfl
noncomputable def style_endsEnt : Nat × Go.Lf.Entry := (38, ⟨[.val (.sl (.st (.pr .str (.pr .str (.pr (.st (.pr (.int .i64) (.pr (.int .i64) (.pr (.int .i64) .unit)))) .unit))))), .val (.int .i64)], [.bool], fun z => style_ends z.1 z.2⟩)
theorem style_ends_ok : Go.Lf.EntryOk Go.Proofs.Tryd.prog GG 38 style_endsEnt.2 :=
  Go.Lf.fn_ok (c := style_endsCtx) (code := style_endsCode) (an := style_endsAnn) (slots := [.tmp 4]) (fn := Go.Proofs.Tryd.f38) (by kernel_rfl) ⟨Tys_ok, Go.Lf.FnsOk.look (.con style_Find_ok .nil)⟩ (by kernel_rfl) (by kernel_rfl) (by kernel_rfl) (by kernel_rfl) (by kernel_rfl) (Nat.le_of_ble_eq_true rfl) (by simp [Go.Lf.Ty.top]) (by simp [Go.Lf.Ty.top]) fun z r h => (style_ends_eq z.1 z.2).trans h
noncomputable def style_CheckCtx : Go.Lf.Ctx := ⟨73, Tys, [style_FindEnt, style_namedEnt, style_changeEnt, style_endsEnt], [], [], []⟩
noncomputable def style_CheckCode : Go.Code := (Go.Proofs.Tryd.f15.body).getD .skip
def style_CheckAnn : Go.Lf.Ann := (.seq .no (.seq .no (.seq (.seq .no (.loop ⟨[0, 16, 17], [], [(18, (.int .i64))], []⟩ (.more (.ext 0) ⟨[0], [], [], []⟩ (.one .ret ⟨[], [], [(2, (.int .i64)), (3, (.int .i64))], []⟩)) (.seq .no (.seq .no (.seq (.seq .no (.seq .no (.seq (.seq (.draw 11) .no) .no))) .no))))) (.seq (.seq .no (.loop ⟨[0, 47, 48], [], [(49, (.int .i64))], []⟩ (.more (.ext 2) ⟨[], [], [], []⟩ (.one .ret ⟨[], [], [(2, (.int .i64)), (3, (.int .i64))], []⟩)) (.seq .no (.seq .no (.seq (.join (.more .nrm ⟨[0, 47, 48, 49], [], [], []⟩ (.one .ret ⟨[], [], [(2, (.int .i64)), (3, (.int .i64))], []⟩)) .no) .no))))) .no))))
noncomputable def style_Check (a0 : List ((List (UInt8)) × ((List (UInt8)) × (((Int) × ((Int) × ((Int) × (Unit)))) × (Unit))))) : Option ((Int) × (Int)) :=
 bif (decide ((64 : Int) < (((List.length a0) : Nat) : Int))) then some ((0 : Int), (2 : Int))
 else (Go.Lf.loopC (σ := Int) (κ := (Unit) ⊕ ((Int) × (Int))) (fun z1 =>
     bif (decide (z1 < (((List.length a0) : Nat) : Int))) then ((Go.Lf.idx a0 z1)).bind fun r2 =>
     ((Go.Fn.style_named r2.1)).bind fun r3 =>
     bif (!r3) then some (.inr (.inr (z1, (60 : Int))))
     else ((Go.Lf.sub a0 (0 : Int) z1)).bind fun r4 =>
     ((Go.Fn.style_Find r4 r2.1)).bind fun r5 =>
     bif r5.2 then some (.inr (.inr (z1, (61 : Int))))
     else ((Go.Fn.style_change r2.2.2.1)).bind fun r6 =>
     bif (decide ((r6 : Int) ≠ (0 : Int))) then some (.inr (.inr (z1, r6)))
     else some (.inl (Go.IntKind.wrap .i64 (z1 + (1 : Int))))
     else some (.inr (.inl ()))) (0 : Int) : Option ((Unit) ⊕ ((Int) × (Int)))).bind fun r7 =>
 Go.Lf.onSum r7 (fun a8 =>
 (Go.Lf.loopC (σ := Int) (κ := (Unit) ⊕ ((Int) × (Int))) (fun z9 =>
     bif (decide (z9 < (((List.length a0) : Nat) : Int))) then (((Go.Lf.idx a0 z9)).bind fun r10 =>
       bif (decide ((r10.2.1 : List (UInt8)) = ([] : List (UInt8)))) then some (.inl ())
       else ((Go.Fn.style_Find a0 r10.2.1)).bind fun r11 =>
       bif (!r11.2) then some (.inr (z9, (64 : Int)))
       else ((Go.Fn.style_ends a0 z9)).bind fun r12 =>
       bif (!r12) then some (.inr (z9, (65 : Int)))
       else some (.inl ()) : Option ((Unit) ⊕ ((Int) × (Int)))).bind fun r13 =>
     Go.Lf.onSum r13 (fun a14 =>
     some (.inl (Go.IntKind.wrap .i64 (z9 + (1 : Int))))) (fun b15 =>
     some (.inr (.inr (b15.1, b15.2))))
     else some (.inr (.inl ()))) (0 : Int) : Option ((Unit) ⊕ ((Int) × (Int)))).bind fun r16 =>
 Go.Lf.onSum r16 (fun a17 =>
 some ((0 : Int), (0 : Int))) (fun b18 =>
 some (b18.1, b18.2))) (fun b19 =>
 some (b19.1, b19.2))
theorem style_Check_eq (a0 : List ((List (UInt8)) × ((List (UInt8)) × (((Int) × ((Int) × ((Int) × (Unit)))) × (Unit))))) : Go.Lf.fnE style_CheckCtx style_CheckCode style_CheckAnn [.val (.sl (.st (.pr .str (.pr .str (.pr (.st (.pr (.int .i64) (.pr (.int .i64) (.pr (.int .i64) .unit)))) .unit)))))] [(.int .i64), (.int .i64)] [.tmp 2, .tmp 3] (a0) = style_Check a0 := by kernel_rfl
noncomputable def style_CheckEnt : Nat × Go.Lf.Entry := (15, ⟨[.val (.sl (.st (.pr .str (.pr .str (.pr (.st (.pr (.int .i64) (.pr (.int .i64) (.pr (.int .i64) .unit)))) .unit)))))], [(.int .i64), (.int .i64)], fun z => style_Check z⟩)
theorem style_Check_ok : Go.Lf.EntryOk Go.Proofs.Tryd.prog GG 15 style_CheckEnt.2 :=
  Go.Lf.fn_ok (c := style_CheckCtx) (code := style_CheckCode) (an := style_CheckAnn) (slots := [.tmp 2, .tmp 3]) (fn := Go.Proofs.Tryd.f15) (by kernel_rfl) ⟨Tys_ok, Go.Lf.FnsOk.look (.con style_Find_ok (.con style_named_ok (.con style_change_ok (.con style_ends_ok .nil))))⟩ (by kernel_rfl) (by kernel_rfl) (by kernel_rfl) (by kernel_rfl) (by kernel_rfl) (Nat.le_of_ble_eq_true rfl) (by simp [Go.Lf.Ty.top]) (by simp [Go.Lf.Ty.top]) fun z r h => (style_Check_eq z).trans h
noncomputable def style_plainCtx : Go.Lf.Ctx := ⟨2, Tys, [], [], [], []⟩
noncomputable def style_plainCode : Go.Code := (Go.Proofs.Tryd.f48.body).getD .skip
def style_plainAnn : Go.Lf.Ann := .no
noncomputable def style_plain  : Option ((Int) × ((Int) × ((Int) × (Unit)))) :=
 some ((0 : Int), ((0 : Int), ((-(1 : Int)), ())))
theorem style_plain_eq  : Go.Lf.fnE style_plainCtx style_plainCode style_plainAnn [] [(.st (.pr (.int .i64) (.pr (.int .i64) (.pr (.int .i64) .unit))))] [.cell 0 27] () = style_plain  := by kernel_rfl
noncomputable def style_plainEnt : Nat × Go.Lf.Entry := (48, ⟨[], [(.st (.pr (.int .i64) (.pr (.int .i64) (.pr (.int .i64) .unit))))], fun _ => style_plain ⟩)
theorem style_plain_ok : Go.Lf.EntryOk Go.Proofs.Tryd.prog GG 48 style_plainEnt.2 :=
  Go.Lf.fn_ok (c := style_plainCtx) (code := style_plainCode) (an := style_plainAnn) (slots := [.cell 0 27]) (fn := Go.Proofs.Tryd.f48) (by kernel_rfl) ⟨Tys_ok, Go.Lf.FnsOk.look .nil⟩ (by kernel_rfl) (by kernel_rfl) (by kernel_rfl) (by kernel_rfl) (by kernel_rfl) (Nat.le_of_ble_eq_true rfl) (by simp [Go.Lf.Ty.top]) (by simp [Go.Lf.Ty.top]) fun z r h => (style_plain_eq ).trans h
noncomputable def style_wholeCtx (self : (List ((List (UInt8)) × ((List (UInt8)) × (((Int) × ((Int) × ((Int) × (Unit)))) × (Unit))))) × (Int) → Option ((Int) × ((Int) × ((Int) × (Unit))))) : Go.Lf.Ctx := ⟨38, Tys, [style_FindEnt, style_ThenEnt, (42, ⟨[.val (.sl (.st (.pr .str (.pr .str (.pr (.st (.pr (.int .i64) (.pr (.int .i64) (.pr (.int .i64) .unit)))) .unit))))), .val (.int .i64)], [(.st (.pr (.int .i64) (.pr (.int .i64) (.pr (.int .i64) .unit))))], self⟩), style_plainEnt], [], [], []⟩
noncomputable def style_wholeCode : Go.Code := (Go.Proofs.Tryd.f42.body).getD .skip
def style_wholeAnn : Go.Lf.Ann := (.seq .no (.seq .no (.seq (.join (.one .nrm ⟨[1, 0], [(4, 4, [], 0), (5, 5, [], 0)], [], [(4, 27, (.st (.pr (.int .i64) (.pr (.int .i64) (.pr (.int .i64) .unit))))), (5, 27, (.st (.pr (.int .i64) (.pr (.int .i64) (.pr (.int .i64) .unit)))))]⟩) (.seq .no (.seq (.join (.one .nrm ⟨[1, 0, 6], [(4, 4, [], 0), (5, 5, [], 0)], [(27, .bool)], [(4, 27, (.st (.pr (.int .i64) (.pr (.int .i64) (.pr (.int .i64) .unit))))), (5, 27, (.st (.pr (.int .i64) (.pr (.int .i64) (.pr (.int .i64) .unit)))))]⟩) .no) .no))) (.seq (.draw 7) .no))))
noncomputable def style_wholeB (self : (List ((List (UInt8)) × ((List (UInt8)) × (((Int) × ((Int) × ((Int) × (Unit)))) × (Unit))))) × (Int) → Option ((Int) × ((Int) × ((Int) × (Unit))))) (a0 : List ((List (UInt8)) × ((List (UInt8)) × (((Int) × ((Int) × ((Int) × (Unit)))) × (Unit))))) (a1 : Int) : Option ((Int) × ((Int) × ((Int) × (Unit)))) :=
 (Go.Fn.style_plain).bind fun r1 =>
 (((Go.Lf.idx a0 a1)).bind fun r2 =>
   ((Go.Fn.style_Find a0 r2.2.1)).bind fun r3 =>
   (bif r3.2 then ((Go.Lf.idx a0 a1)).bind fun r4 =>
     some ((decide ((r4.2.1 : List (UInt8)) ≠ ([] : List (UInt8)))), (((0 : Int), ((0 : Int), ((0 : Int), ()))), r1))
     else some (false, (((0 : Int), ((0 : Int), ((0 : Int), ()))), r1))).bind fun r5 =>
   bif r5.1 then ((self (a0, r3.1))).bind fun r6 =>
   some (r5.2.1, r6)
   else some (r5.2.1, r5.2.2)).bind fun r7 =>
 ((Go.Lf.idx a0 a1)).bind fun r8 =>
 ((Go.Fn.style_Then r7.2 r8.2.2.1)).bind fun r9 =>
 some r9
theorem style_whole_eq (self : (List ((List (UInt8)) × ((List (UInt8)) × (((Int) × ((Int) × ((Int) × (Unit)))) × (Unit))))) × (Int) → Option ((Int) × ((Int) × ((Int) × (Unit))))) (a0 : List ((List (UInt8)) × ((List (UInt8)) × (((Int) × ((Int) × ((Int) × (Unit)))) × (Unit))))) (a1 : Int) : Go.Lf.fnE (style_wholeCtx self) style_wholeCode style_wholeAnn [.val (.sl (.st (.pr .str (.pr .str (.pr (.st (.pr (.int .i64) (.pr (.int .i64) (.pr (.int .i64) .unit)))) .unit))))), .val (.int .i64)] [(.st (.pr (.int .i64) (.pr (.int .i64) (.pr (.int .i64) .unit))))] [.cell 4 27] (a0, a1) = style_wholeB self a0 a1 := by kernel_rfl
noncomputable def style_wholeN : Nat → (List ((List (UInt8)) × ((List (UInt8)) × (((Int) × ((Int) × ((Int) × (Unit)))) × (Unit))))) × (Int) → Option ((Int) × ((Int) × ((Int) × (Unit))))
 | 0 => fun _ => none
 | n + 1 => fun z => style_wholeB (style_wholeN n) z.1 z.2
noncomputable def style_whole (a0 : List ((List (UInt8)) × ((List (UInt8)) × (((Int) × ((Int) × ((Int) × (Unit)))) × (Unit))))) (a1 : Int) : Option ((Int) × ((Int) × ((Int) × (Unit)))) := Go.Lf.supC fun n => style_wholeN n (a0, a1)
noncomputable def style_wholeEnt : Nat × Go.Lf.Entry := (42, ⟨[.val (.sl (.st (.pr .str (.pr .str (.pr (.st (.pr (.int .i64) (.pr (.int .i64) (.pr (.int .i64) .unit)))) .unit))))), .val (.int .i64)], [(.st (.pr (.int .i64) (.pr (.int .i64) (.pr (.int .i64) .unit))))], fun z => style_whole z.1 z.2⟩)
theorem style_whole_ok : Go.Lf.EntryOk Go.Proofs.Tryd.prog GG 42 style_wholeEnt.2 :=
  Go.Lf.rec_ok (ps := [.val (.sl (.st (.pr .str (.pr .str (.pr (.st (.pr (.int .i64) (.pr (.int .i64) (.pr (.int .i64) .unit)))) .unit))))), .val (.int .i64)]) (rs := [(.st (.pr (.int .i64) (.pr (.int .i64) (.pr (.int .i64) .unit))))]) (N := style_wholeN) Go.Proofs.Tryd.f42 (by kernel_rfl) (by kernel_rfl) (by kernel_rfl) (by simp [Go.Lf.Ty.top]) (fun _ => rfl) fun n ih => Go.Lf.fn_ok (c := style_wholeCtx (style_wholeN n)) (code := style_wholeCode) (an := style_wholeAnn) (slots := [.cell 4 27]) (fn := Go.Proofs.Tryd.f42) (by kernel_rfl) ⟨Tys_ok, Go.Lf.FnsOk.look (.con style_Find_ok (.con style_Then_ok (.cons ih (.con style_plain_ok .nil))))⟩ (by kernel_rfl) (by kernel_rfl) (by kernel_rfl) (by kernel_rfl) (by kernel_rfl) (Nat.le_of_ble_eq_true rfl) (by simp [Go.Lf.Ty.top]) (by simp [Go.Lf.Ty.top]) fun z r h => (style_whole_eq (style_wholeN n) z.1 z.2).trans h
noncomputable def style_WholeCtx : Go.Lf.Ctx := ⟨31, Tys, [style_CheckEnt, style_FindEnt, style_wholeEnt], [10], [], []⟩
noncomputable def style_WholeCode : Go.Code := (Go.Proofs.Tryd.f27.body).getD .skip
def style_WholeAnn : Go.Lf.Ann := .no
noncomputable def style_Whole (a0 : List ((List (UInt8)) × ((List (UInt8)) × (((Int) × ((Int) × ((Int) × (Unit)))) × (Unit))))) (a1 : List (UInt8)) : Option (((Int) × ((Int) × ((Int) × (Unit)))) × (Int)) :=
 ((Go.Fn.style_Check a0)).bind fun r1 =>
 bif (decide ((r1.2 : Int) ≠ (0 : Int))) then some (((0 : Int), ((0 : Int), ((0 : Int), ()))), r1.2)
 else ((Go.Fn.style_Find a0 a1)).bind fun r2 =>
 bif (!r2.2) then some (((0 : Int), ((0 : Int), ((0 : Int), ()))), (66 : Int))
 else ((Go.Fn.style_whole a0 r2.1)).bind fun r3 =>
 some (r3, (0 : Int))
theorem style_Whole_eq (a0 : List ((List (UInt8)) × ((List (UInt8)) × (((Int) × ((Int) × ((Int) × (Unit)))) × (Unit))))) (a1 : List (UInt8)) : Go.Lf.fnE style_WholeCtx style_WholeCode style_WholeAnn [.val (.sl (.st (.pr .str (.pr .str (.pr (.st (.pr (.int .i64) (.pr (.int .i64) (.pr (.int .i64) .unit)))) .unit))))), .val .str] [(.st (.pr (.int .i64) (.pr (.int .i64) (.pr (.int .i64) .unit)))), (.int .i64)] [.cell 4 27, .tmp 5] (a0, a1) = style_Whole a0 a1 := by kernel_rfl
noncomputable def style_WholeEnt : Nat × Go.Lf.Entry := (27, ⟨[.val (.sl (.st (.pr .str (.pr .str (.pr (.st (.pr (.int .i64) (.pr (.int .i64) (.pr (.int .i64) .unit)))) .unit))))), .val .str], [(.st (.pr (.int .i64) (.pr (.int .i64) (.pr (.int .i64) .unit)))), (.int .i64)], fun z => style_Whole z.1 z.2⟩)
theorem style_Whole_ok : Go.Lf.EntryOk Go.Proofs.Tryd.prog GG 27 style_WholeEnt.2 :=
  Go.Lf.fn_ok (c := style_WholeCtx) (code := style_WholeCode) (an := style_WholeAnn) (slots := [.cell 4 27, .tmp 5]) (fn := Go.Proofs.Tryd.f27) (by kernel_rfl) ⟨Tys_ok, Go.Lf.FnsOk.look (.con style_Check_ok (.con style_Find_ok (.con style_whole_ok .nil)))⟩ (by kernel_rfl) (by kernel_rfl) (by kernel_rfl) (by kernel_rfl) (by kernel_rfl) (Nat.le_of_ble_eq_true rfl) (by simp [Go.Lf.Ty.top]) (by simp [Go.Lf.Ty.top]) fun z r h => (style_Whole_eq z.1 z.2).trans h
noncomputable def style_NestCtx : Go.Lf.Ctx := ⟨52, Tys, [style_CheckEnt, style_FindEnt, style_ApplyEnt, style_wholeEnt], [14], [], []⟩
noncomputable def style_NestCode : Go.Code := (Go.Proofs.Tryd.f29.body).getD .skip
def style_NestAnn : Go.Lf.Ann := (.seq .no (.seq .no (.seq .no (.seq .no (.seq (.seq .no (.loop ⟨[0, 28, 29], [(4, 4, [], 0), (9, 9, [], 0)], [(30, (.int .i64))], [(4, 40, (.st (.pr (.int .i64) (.pr (.int .i64) .unit)))), (9, 40, (.st (.pr (.int .i64) (.pr (.int .i64) .unit))))]⟩ (.more (.ext 0) ⟨[], [(4, 4, [], 0), (9, 9, [], 0)], [], [(4, 40, (.st (.pr (.int .i64) (.pr (.int .i64) .unit)))), (9, 40, (.st (.pr (.int .i64) (.pr (.int .i64) .unit))))]⟩ (.one .ret ⟨[], [(4, 4, [], 0)], [(5, (.int .i64)), (6, (.int .i64))], [(4, 40, (.st (.pr (.int .i64) (.pr (.int .i64) .unit))))]⟩)) (.seq .no (.seq .no (.seq (.seq .no (.seq .no (.seq .no (.draw 5)))) .no))))) .no)))))
noncomputable def style_Nest (a0 : List ((List (UInt8)) × ((List (UInt8)) × (((Int) × ((Int) × ((Int) × (Unit)))) × (Unit))))) (a1 : List (List (UInt8))) : Option (((Int) × ((Int) × (Unit))) × ((Int) × (Int))) :=
 ((Go.Fn.style_Check a0)).bind fun r1 =>
 bif (decide ((r1.2 : Int) ≠ (0 : Int))) then some (((0 : Int), ((0 : Int), ())), ((0 : Int), r1.2))
 else bif (decide ((32 : Int) < (((List.length a1) : Nat) : Int))) then some (((0 : Int), ((0 : Int), ())), ((0 : Int), (2 : Int)))
 else (Go.Lf.loopC (σ := (Int) × (((Int) × ((Int) × (Unit))) × ((Int) × ((Int) × (Unit))))) (κ := (((Int) × ((Int) × (Unit))) × ((Int) × ((Int) × (Unit)))) ⊕ ((Int) × ((Int) × ((Int) × ((Int) × (Unit)))))) (fun z2 =>
     bif (decide (z2.1 < (((List.length a1) : Nat) : Int))) then ((Go.Lf.idx a1 z2.1)).bind fun r3 =>
     ((Go.Fn.style_Find a0 r3)).bind fun r4 =>
     bif (!r4.2) then some (.inr (.inr (z2.1, ((66 : Int), ((0 : Int), ((0 : Int), ()))))))
     else ((Go.Fn.style_whole a0 r4.1)).bind fun r5 =>
     ((Go.Fn.style_Apply z2.2.2 r5)).bind fun r6 =>
     some (.inl ((Go.IntKind.wrap .i64 (z2.1 + (1 : Int))), (z2.2.1, r6)))
     else some (.inr (.inl (z2.2.1, z2.2.2)))) ((0 : Int), (((0 : Int), ((0 : Int), ())), ((0 : Int), ((7 : Int), ())))) : Option ((((Int) × ((Int) × (Unit))) × ((Int) × ((Int) × (Unit)))) ⊕ ((Int) × ((Int) × ((Int) × ((Int) × (Unit))))))).bind fun r7 =>
 Go.Lf.onSum r7 (fun a8 =>
 some (a8.2, ((0 : Int), (0 : Int)))) (fun b9 =>
 some (b9.2.2, (b9.1, b9.2.1)))
theorem style_Nest_eq (a0 : List ((List (UInt8)) × ((List (UInt8)) × (((Int) × ((Int) × ((Int) × (Unit)))) × (Unit))))) (a1 : List (List (UInt8))) : Go.Lf.fnE style_NestCtx style_NestCode style_NestAnn [.val (.sl (.st (.pr .str (.pr .str (.pr (.st (.pr (.int .i64) (.pr (.int .i64) (.pr (.int .i64) .unit)))) .unit))))), .val (.sl .str)] [(.st (.pr (.int .i64) (.pr (.int .i64) .unit))), (.int .i64), (.int .i64)] [.cell 4 40, .tmp 5, .tmp 6] (a0, a1) = style_Nest a0 a1 := by kernel_rfl
noncomputable def style_NestEnt : Nat × Go.Lf.Entry := (29, ⟨[.val (.sl (.st (.pr .str (.pr .str (.pr (.st (.pr (.int .i64) (.pr (.int .i64) (.pr (.int .i64) .unit)))) .unit))))), .val (.sl .str)], [(.st (.pr (.int .i64) (.pr (.int .i64) .unit))), (.int .i64), (.int .i64)], fun z => style_Nest z.1 z.2⟩)
theorem style_Nest_ok : Go.Lf.EntryOk Go.Proofs.Tryd.prog GG 29 style_NestEnt.2 :=
  Go.Lf.fn_ok (c := style_NestCtx) (code := style_NestCode) (an := style_NestAnn) (slots := [.cell 4 40, .tmp 5, .tmp 6]) (fn := Go.Proofs.Tryd.f29) (by kernel_rfl) ⟨Tys_ok, Go.Lf.FnsOk.look (.con style_Check_ok (.con style_Find_ok (.con style_Apply_ok (.con style_whole_ok .nil))))⟩ (by kernel_rfl) (by kernel_rfl) (by kernel_rfl) (by kernel_rfl) (by kernel_rfl) (Nat.le_of_ble_eq_true rfl) (by simp [Go.Lf.Ty.top]) (by simp [Go.Lf.Ty.top]) fun z r h => (style_Nest_eq z.1 z.2).trans h
noncomputable def style_colorCtx : Go.Lf.Ctx := ⟨35, Tys, [strconv_ItoaEnt, strconv_AtoiEnt], [9], [], []⟩
noncomputable def style_colorCode : Go.Code := (Go.Proofs.Tryd.f49.body).getD .skip
def style_colorAnn : Go.Lf.Ann := (.seq .no (.seq .no (.seq .no (.seq (.join (.one .nrm ⟨[], [], [(2, (.int .i64)), (3, .bool)], []⟩) (.draw 21)) .no))))
noncomputable def style_color (a0 : List (List (UInt8))) : Option ((Int) × (Bool)) :=
 bif (decide (((((List.length a0) : Nat) : Int) : Int) = (0 : Int))) then some ((0 : Int), false)
 else ((Go.Lf.idx a0 (0 : Int))).bind fun r1 =>
 ((Go.Fn.strconv_Atoi r1)).bind fun r2 =>
 (bif (Option.isNone r2.2) then bif (decide ((0 : Int) ≤ r2.1)) then bif (decide (r2.1 ≤ (15 : Int))) then ((Go.Fn.strconv_Itoa r2.1)).bind fun r3 =>
   ((Go.Lf.idx a0 (0 : Int))).bind fun r4 =>
   some (r2.1, (decide ((r3 : List (UInt8)) = r4)))
   else some (r2.1, false)
   else some (r2.1, false)
   else some (r2.1, false)).bind fun r5 =>
 some (r5.1, r5.2)
theorem style_color_eq (a0 : List (List (UInt8))) : Go.Lf.fnE style_colorCtx style_colorCode style_colorAnn [.val (.sl .str)] [(.int .i64), .bool] [.tmp 2, .tmp 3] (a0) = style_color a0 := by kernel_rfl
noncomputable def style_colorEnt : Nat × Go.Lf.Entry := (49, ⟨[.val (.sl .str)], [(.int .i64), .bool], fun z => style_color z⟩)
theorem style_color_ok : Go.Lf.EntryOk Go.Proofs.Tryd.prog GG 49 style_colorEnt.2 :=
  Go.Lf.fn_ok (c := style_colorCtx) (code := style_colorCode) (an := style_colorAnn) (slots := [.tmp 2, .tmp 3]) (fn := Go.Proofs.Tryd.f49) (by kernel_rfl) ⟨Tys_ok, Go.Lf.FnsOk.look (.con strconv_Itoa_ok (.con strconv_Atoi_ok .nil))⟩ (by kernel_rfl) (by kernel_rfl) (by kernel_rfl) (by kernel_rfl) (by kernel_rfl) (Nat.le_of_ble_eq_true rfl) (by simp [Go.Lf.Ty.top]) (by simp [Go.Lf.Ty.top]) fun z r h => (style_color_eq z).trans h
noncomputable def style_wordsCtx : Go.Lf.Ctx := ⟨18, Tys, [], [], [], []⟩
noncomputable def style_wordsCode : Go.Code := (Go.Proofs.Tryd.f56.body).getD .skip
def style_wordsAnn : Go.Lf.Ann := .no
noncomputable def style_words  : Option (List (List (UInt8))) :=
 ((Go.Lf.made (16 : Nat) ([] : List (UInt8)) (7 : Int) (7 : Int))).bind fun r1 =>
 ((Go.Lf.chk (List.length r1) (0 : Int))).bind fun r2 =>
 ((Go.Lf.nth r1 r2)).bind fun r3 =>
 ((Go.Lf.chk (List.length (List.set r1 r2 ((98 : UInt8) :: ((111 : UInt8) :: ((108 : UInt8) :: ((100 : UInt8) :: ([] : List (UInt8)))))))) (1 : Int))).bind fun r4 =>
 ((Go.Lf.nth (List.set r1 r2 ((98 : UInt8) :: ((111 : UInt8) :: ((108 : UInt8) :: ((100 : UInt8) :: ([] : List (UInt8))))))) r4)).bind fun r5 =>
 ((Go.Lf.chk (List.length (List.set (List.set r1 r2 ((98 : UInt8) :: ((111 : UInt8) :: ((108 : UInt8) :: ((100 : UInt8) :: ([] : List (UInt8))))))) r4 ((105 : UInt8) :: ((116 : UInt8) :: ((97 : UInt8) :: ((108 : UInt8) :: ((105 : UInt8) :: ((99 : UInt8) :: ([] : List (UInt8)))))))))) (2 : Int))).bind fun r6 =>
 ((Go.Lf.nth (List.set (List.set r1 r2 ((98 : UInt8) :: ((111 : UInt8) :: ((108 : UInt8) :: ((100 : UInt8) :: ([] : List (UInt8))))))) r4 ((105 : UInt8) :: ((116 : UInt8) :: ((97 : UInt8) :: ((108 : UInt8) :: ((105 : UInt8) :: ((99 : UInt8) :: ([] : List (UInt8))))))))) r6)).bind fun r7 =>
 ((Go.Lf.chk (List.length (List.set (List.set (List.set r1 r2 ((98 : UInt8) :: ((111 : UInt8) :: ((108 : UInt8) :: ((100 : UInt8) :: ([] : List (UInt8))))))) r4 ((105 : UInt8) :: ((116 : UInt8) :: ((97 : UInt8) :: ((108 : UInt8) :: ((105 : UInt8) :: ((99 : UInt8) :: ([] : List (UInt8))))))))) r6 ((117 : UInt8) :: ((110 : UInt8) :: ((100 : UInt8) :: ((101 : UInt8) :: ((114 : UInt8) :: ([] : List (UInt8))))))))) (3 : Int))).bind fun r8 =>
 ((Go.Lf.nth (List.set (List.set (List.set r1 r2 ((98 : UInt8) :: ((111 : UInt8) :: ((108 : UInt8) :: ((100 : UInt8) :: ([] : List (UInt8))))))) r4 ((105 : UInt8) :: ((116 : UInt8) :: ((97 : UInt8) :: ((108 : UInt8) :: ((105 : UInt8) :: ((99 : UInt8) :: ([] : List (UInt8))))))))) r6 ((117 : UInt8) :: ((110 : UInt8) :: ((100 : UInt8) :: ((101 : UInt8) :: ((114 : UInt8) :: ([] : List (UInt8)))))))) r8)).bind fun r9 =>
 ((Go.Lf.chk (List.length (List.set (List.set (List.set (List.set r1 r2 ((98 : UInt8) :: ((111 : UInt8) :: ((108 : UInt8) :: ((100 : UInt8) :: ([] : List (UInt8))))))) r4 ((105 : UInt8) :: ((116 : UInt8) :: ((97 : UInt8) :: ((108 : UInt8) :: ((105 : UInt8) :: ((99 : UInt8) :: ([] : List (UInt8))))))))) r6 ((117 : UInt8) :: ((110 : UInt8) :: ((100 : UInt8) :: ((101 : UInt8) :: ((114 : UInt8) :: ([] : List (UInt8)))))))) r8 ((115 : UInt8) :: ((116 : UInt8) :: ((114 : UInt8) :: ((105 : UInt8) :: ((107 : UInt8) :: ((101 : UInt8) :: ([] : List (UInt8)))))))))) (4 : Int))).bind fun r10 =>
 ((Go.Lf.nth (List.set (List.set (List.set (List.set r1 r2 ((98 : UInt8) :: ((111 : UInt8) :: ((108 : UInt8) :: ((100 : UInt8) :: ([] : List (UInt8))))))) r4 ((105 : UInt8) :: ((116 : UInt8) :: ((97 : UInt8) :: ((108 : UInt8) :: ((105 : UInt8) :: ((99 : UInt8) :: ([] : List (UInt8))))))))) r6 ((117 : UInt8) :: ((110 : UInt8) :: ((100 : UInt8) :: ((101 : UInt8) :: ((114 : UInt8) :: ([] : List (UInt8)))))))) r8 ((115 : UInt8) :: ((116 : UInt8) :: ((114 : UInt8) :: ((105 : UInt8) :: ((107 : UInt8) :: ((101 : UInt8) :: ([] : List (UInt8))))))))) r10)).bind fun r11 =>
 ((Go.Lf.chk (List.length (List.set (List.set (List.set (List.set (List.set r1 r2 ((98 : UInt8) :: ((111 : UInt8) :: ((108 : UInt8) :: ((100 : UInt8) :: ([] : List (UInt8))))))) r4 ((105 : UInt8) :: ((116 : UInt8) :: ((97 : UInt8) :: ((108 : UInt8) :: ((105 : UInt8) :: ((99 : UInt8) :: ([] : List (UInt8))))))))) r6 ((117 : UInt8) :: ((110 : UInt8) :: ((100 : UInt8) :: ((101 : UInt8) :: ((114 : UInt8) :: ([] : List (UInt8)))))))) r8 ((115 : UInt8) :: ((116 : UInt8) :: ((114 : UInt8) :: ((105 : UInt8) :: ((107 : UInt8) :: ((101 : UInt8) :: ([] : List (UInt8))))))))) r10 ((109 : UInt8) :: ((111 : UInt8) :: ((110 : UInt8) :: ((111 : UInt8) :: ([] : List (UInt8)))))))) (5 : Int))).bind fun r12 =>
 ((Go.Lf.nth (List.set (List.set (List.set (List.set (List.set r1 r2 ((98 : UInt8) :: ((111 : UInt8) :: ((108 : UInt8) :: ((100 : UInt8) :: ([] : List (UInt8))))))) r4 ((105 : UInt8) :: ((116 : UInt8) :: ((97 : UInt8) :: ((108 : UInt8) :: ((105 : UInt8) :: ((99 : UInt8) :: ([] : List (UInt8))))))))) r6 ((117 : UInt8) :: ((110 : UInt8) :: ((100 : UInt8) :: ((101 : UInt8) :: ((114 : UInt8) :: ([] : List (UInt8)))))))) r8 ((115 : UInt8) :: ((116 : UInt8) :: ((114 : UInt8) :: ((105 : UInt8) :: ((107 : UInt8) :: ((101 : UInt8) :: ([] : List (UInt8))))))))) r10 ((109 : UInt8) :: ((111 : UInt8) :: ((110 : UInt8) :: ((111 : UInt8) :: ([] : List (UInt8))))))) r12)).bind fun r13 =>
 ((Go.Lf.chk (List.length (List.set (List.set (List.set (List.set (List.set (List.set r1 r2 ((98 : UInt8) :: ((111 : UInt8) :: ((108 : UInt8) :: ((100 : UInt8) :: ([] : List (UInt8))))))) r4 ((105 : UInt8) :: ((116 : UInt8) :: ((97 : UInt8) :: ((108 : UInt8) :: ((105 : UInt8) :: ((99 : UInt8) :: ([] : List (UInt8))))))))) r6 ((117 : UInt8) :: ((110 : UInt8) :: ((100 : UInt8) :: ((101 : UInt8) :: ((114 : UInt8) :: ([] : List (UInt8)))))))) r8 ((115 : UInt8) :: ((116 : UInt8) :: ((114 : UInt8) :: ((105 : UInt8) :: ((107 : UInt8) :: ((101 : UInt8) :: ([] : List (UInt8))))))))) r10 ((109 : UInt8) :: ((111 : UInt8) :: ((110 : UInt8) :: ((111 : UInt8) :: ([] : List (UInt8))))))) r12 ((115 : UInt8) :: ((109 : UInt8) :: ((97 : UInt8) :: ((108 : UInt8) :: ((108 : UInt8) :: ([] : List (UInt8))))))))) (6 : Int))).bind fun r14 =>
 ((Go.Lf.nth (List.set (List.set (List.set (List.set (List.set (List.set r1 r2 ((98 : UInt8) :: ((111 : UInt8) :: ((108 : UInt8) :: ((100 : UInt8) :: ([] : List (UInt8))))))) r4 ((105 : UInt8) :: ((116 : UInt8) :: ((97 : UInt8) :: ((108 : UInt8) :: ((105 : UInt8) :: ((99 : UInt8) :: ([] : List (UInt8))))))))) r6 ((117 : UInt8) :: ((110 : UInt8) :: ((100 : UInt8) :: ((101 : UInt8) :: ((114 : UInt8) :: ([] : List (UInt8)))))))) r8 ((115 : UInt8) :: ((116 : UInt8) :: ((114 : UInt8) :: ((105 : UInt8) :: ((107 : UInt8) :: ((101 : UInt8) :: ([] : List (UInt8))))))))) r10 ((109 : UInt8) :: ((111 : UInt8) :: ((110 : UInt8) :: ((111 : UInt8) :: ([] : List (UInt8))))))) r12 ((115 : UInt8) :: ((109 : UInt8) :: ((97 : UInt8) :: ((108 : UInt8) :: ((108 : UInt8) :: ([] : List (UInt8)))))))) r14)).bind fun r15 =>
 some (List.set (List.set (List.set (List.set (List.set (List.set (List.set r1 r2 ((98 : UInt8) :: ((111 : UInt8) :: ((108 : UInt8) :: ((100 : UInt8) :: ([] : List (UInt8))))))) r4 ((105 : UInt8) :: ((116 : UInt8) :: ((97 : UInt8) :: ((108 : UInt8) :: ((105 : UInt8) :: ((99 : UInt8) :: ([] : List (UInt8))))))))) r6 ((117 : UInt8) :: ((110 : UInt8) :: ((100 : UInt8) :: ((101 : UInt8) :: ((114 : UInt8) :: ([] : List (UInt8)))))))) r8 ((115 : UInt8) :: ((116 : UInt8) :: ((114 : UInt8) :: ((105 : UInt8) :: ((107 : UInt8) :: ((101 : UInt8) :: ([] : List (UInt8))))))))) r10 ((109 : UInt8) :: ((111 : UInt8) :: ((110 : UInt8) :: ((111 : UInt8) :: ([] : List (UInt8))))))) r12 ((115 : UInt8) :: ((109 : UInt8) :: ((97 : UInt8) :: ((108 : UInt8) :: ((108 : UInt8) :: ([] : List (UInt8)))))))) r14 ((114 : UInt8) :: ((101 : UInt8) :: ((118 : UInt8) :: ((101 : UInt8) :: ((114 : UInt8) :: ((115 : UInt8) :: ((101 : UInt8) :: ([] : List (UInt8))))))))))
theorem style_words_eq  : Go.Lf.fnE style_wordsCtx style_wordsCode style_wordsAnn [] [(.sl .str)] [.tmp 0] () = style_words  := by kernel_rfl
noncomputable def style_wordsEnt : Nat × Go.Lf.Entry := (56, ⟨[], [(.sl .str)], fun _ => style_words ⟩)
theorem style_words_ok : Go.Lf.EntryOk Go.Proofs.Tryd.prog GG 56 style_wordsEnt.2 :=
  Go.Lf.fn_ok (c := style_wordsCtx) (code := style_wordsCode) (an := style_wordsAnn) (slots := [.tmp 0]) (fn := Go.Proofs.Tryd.f56) (by kernel_rfl) ⟨Tys_ok, Go.Lf.FnsOk.look .nil⟩ (by kernel_rfl) (by kernel_rfl) (by kernel_rfl) (by kernel_rfl) (by kernel_rfl) (Nat.le_of_ble_eq_true rfl) (by simp [Go.Lf.Ty.top]) (by simp [Go.Lf.Ty.top]) fun z r h => (style_words_eq ).trans h
noncomputable def style_attributeCtx : Go.Lf.Ctx := ⟨58, Tys, [style_wordsEnt], [], [], []⟩
noncomputable def style_attributeCode : Go.Code := (Go.Proofs.Tryd.f50.body).getD .skip
def style_attributeAnn : Go.Lf.Ann := (.seq .no (.seq (.seq .no (.loop ⟨[1, 7, 8], [(0, 0, [.i, .r, .r, .l], 2)], [(9, (.int .i64))], [(0, 29, (.st (.pr .str (.pr .str (.pr (.st (.pr (.int .i64) (.pr (.int .i64) (.pr (.int .i64) .unit)))) .unit)))))]⟩ (.more (.ext 0) ⟨[], [(0, 0, [.i, .r, .r, .l], 2)], [], [(0, 29, (.st (.pr .str (.pr .str (.pr (.st (.pr (.int .i64) (.pr (.int .i64) (.pr (.int .i64) .unit)))) .unit)))))]⟩ (.one .ret ⟨[], [(0, 0, [.i, .r, .r, .l], 2)], [(4, .bool)], [(0, 29, (.st (.pr .str (.pr .str (.pr (.st (.pr (.int .i64) (.pr (.int .i64) (.pr (.int .i64) .unit)))) .unit)))))]⟩)) (.seq .no (.seq .no (.seq (.join (.more .nrm ⟨[1, 7, 8, 9], [(0, 0, [.i, .r, .r, .l], 2)], [], [(0, 29, (.st (.pr .str (.pr .str (.pr (.st (.pr (.int .i64) (.pr (.int .i64) (.pr (.int .i64) .unit)))) .unit)))))]⟩ (.one .ret ⟨[], [(0, 0, [.i, .r, .r, .l], 2)], [(4, .bool)], [(0, 29, (.st (.pr .str (.pr .str (.pr (.st (.pr (.int .i64) (.pr (.int .i64) (.pr (.int .i64) .unit)))) .unit)))))]⟩)) (.seq .no (.seq (.seq (.join (.one .nrm ⟨[1, 7, 8, 9, 5], [(0, 0, [.i, .r, .r, .l], 2)], [(32, .bool)], [(0, 29, (.st (.pr .str (.pr .str (.pr (.st (.pr (.int .i64) (.pr (.int .i64) (.pr (.int .i64) .unit)))) .unit)))))]⟩) (.draw 19)) .no) (.seq .no (.seq .no (.cnd (.seq (.draw 9) .no) (.seq .no (.cnd (.seq (.draw 9) .no) .no)))))))) .no))))) .no))
noncomputable def style_attribute (a0 : (List (UInt8)) × ((List (UInt8)) × (((Int) × ((Int) × ((Int) × (Unit)))) × (Unit)))) (a1 : List (UInt8)) : Option ((Bool) × ((List (UInt8)) × ((List (UInt8)) × (((Int) × ((Int) × ((Int) × (Unit)))) × (Unit))))) :=
 (Go.Fn.style_words).bind fun r1 =>
 (Go.Lf.loopC (σ := (Int) × ((List (UInt8)) × ((List (UInt8)) × (((Int) × ((Int) × ((Int) × (Unit)))) × (Unit))))) (κ := ((List (UInt8)) × ((List (UInt8)) × (((Int) × ((Int) × ((Int) × (Unit)))) × (Unit)))) ⊕ ((Bool) × ((List (UInt8)) × ((List (UInt8)) × (((Int) × ((Int) × ((Int) × (Unit)))) × (Unit)))))) (fun z2 =>
     bif (decide (z2.1 < (((List.length r1) : Nat) : Int))) then (((Go.Lf.idx r1 z2.1)).bind fun r3 =>
       (((Go.Lf.sub a1 (1 : Int) (((List.length a1) : Nat) : Int))).bind fun r4 =>
         bif (!(decide ((r4 : List (UInt8)) ≠ r3))) then ((Go.Lf.nn z2.1 (Int.fdiv (Go.Lf.bits .or .i64 z2.2.2.2.1.1 z2.2.2.2.1.2.1) ((2 : Int) ^ (Min.min (Int.toNat z2.1) (64 : Nat)))))).bind fun r5 =>
         some ((decide (((Go.Lf.bits .and .i64 r5 (1 : Int)) : Int) = (1 : Int))), z2.2)
         else some (true, z2.2)).bind fun r6 =>
       bif r6.1 then some (.inl r6.2)
       else ((Go.Lf.idx a1 (0 : Int))).bind fun r7 =>
       bif (decide (((((UInt8.toNat r7) : Nat) : Int) : Int) = (43 : Int))) then ((Go.Lf.nn z2.1 (Go.IntKind.wrap .i64 ((1 : Int) * ((2 : Int) ^ (Min.min (Int.toNat z2.1) (64 : Nat))))))).bind fun r8 =>
       some (.inr (true, (r6.2.1, (r6.2.2.1, (((Go.Lf.bits .or .i64 r6.2.2.2.1.1 r8), r6.2.2.2.1.2), r6.2.2.2.2)))))
       else bif (decide (((((UInt8.toNat r7) : Nat) : Int) : Int) = (45 : Int))) then ((Go.Lf.nn z2.1 (Go.IntKind.wrap .i64 ((1 : Int) * ((2 : Int) ^ (Min.min (Int.toNat z2.1) (64 : Nat))))))).bind fun r9 =>
       some (.inr (true, (r6.2.1, (r6.2.2.1, ((r6.2.2.2.1.1, ((Go.Lf.bits .or .i64 r6.2.2.2.1.2.1 r9), r6.2.2.2.1.2.2)), r6.2.2.2.2)))))
       else some (.inl r6.2) : Option (((List (UInt8)) × ((List (UInt8)) × (((Int) × ((Int) × ((Int) × (Unit)))) × (Unit)))) ⊕ ((Bool) × ((List (UInt8)) × ((List (UInt8)) × (((Int) × ((Int) × ((Int) × (Unit)))) × (Unit))))))).bind fun r10 =>
     Go.Lf.onSum r10 (fun a11 =>
     some (.inl ((Go.IntKind.wrap .i64 (z2.1 + (1 : Int))), a11))) (fun b12 =>
     some (.inr (.inr (b12.1, b12.2))))
     else some (.inr (.inl z2.2))) ((0 : Int), a0) : Option (((List (UInt8)) × ((List (UInt8)) × (((Int) × ((Int) × ((Int) × (Unit)))) × (Unit)))) ⊕ ((Bool) × ((List (UInt8)) × ((List (UInt8)) × (((Int) × ((Int) × ((Int) × (Unit)))) × (Unit))))))).bind fun r13 =>
 Go.Lf.onSum r13 (fun a14 =>
 some (false, a14)) (fun b15 =>
 some (b15.1, b15.2))
theorem style_attribute_eq (a0 : (List (UInt8)) × ((List (UInt8)) × (((Int) × ((Int) × ((Int) × (Unit)))) × (Unit)))) (a1 : List (UInt8)) : Go.Lf.fnE style_attributeCtx style_attributeCode style_attributeAnn [.obj 29 (.st (.pr .str (.pr .str (.pr (.st (.pr (.int .i64) (.pr (.int .i64) (.pr (.int .i64) .unit)))) .unit)))) (.st (.pr .str (.pr .str (.pr (.st (.pr (.int .i64) (.pr (.int .i64) (.pr (.int .i64) .unit)))) .unit)))) [.i, .r, .r, .l], .val .str] [.bool] [.tmp 4] (a0, a1) = style_attribute a0 a1 := by kernel_rfl
noncomputable def style_attributeEnt : Nat × Go.Lf.Entry := (50, ⟨[.obj 29 (.st (.pr .str (.pr .str (.pr (.st (.pr (.int .i64) (.pr (.int .i64) (.pr (.int .i64) .unit)))) .unit)))) (.st (.pr .str (.pr .str (.pr (.st (.pr (.int .i64) (.pr (.int .i64) (.pr (.int .i64) .unit)))) .unit)))) [.i, .r, .r, .l], .val .str], [.bool], fun z => style_attribute z.1 z.2⟩)
theorem style_attribute_ok : Go.Lf.EntryOk Go.Proofs.Tryd.prog GG 50 style_attributeEnt.2 :=
  Go.Lf.fn_ok (c := style_attributeCtx) (code := style_attributeCode) (an := style_attributeAnn) (slots := [.tmp 4]) (fn := Go.Proofs.Tryd.f50) (by kernel_rfl) ⟨Tys_ok, Go.Lf.FnsOk.look (.con style_words_ok .nil)⟩ (by kernel_rfl) (by kernel_rfl) (by kernel_rfl) (by kernel_rfl) (by kernel_rfl) (Nat.le_of_ble_eq_true rfl) (by simp [Go.Lf.Ty.top]) (by simp [Go.Lf.Ty.top]) fun z r h => (style_attribute_eq z.1 z.2).trans h
noncomputable def style_ParseCtx : Go.Lf.Ctx := ⟨88, Tys, [style_namedEnt, strings_FieldsFuncEnt, strings_CutEnt, style_plainEnt, style_colorEnt, style_attributeEnt], [], [], []⟩
noncomputable def style_ParseCode : Go.Code := (Go.Proofs.Tryd.f31.body).getD .skip
def style_ParseAnn : Go.Lf.Ann := (.seq .no (.seq .no (.seq .no (.seq .no (.seq .no (.seq (.seq (.join (.one .nrm ⟨[4, 6, 5], [(2, 2, [], 0)], [(40, .bool)], [(2, 29, (.st (.pr .str (.pr .str (.pr (.st (.pr (.int .i64) (.pr (.int .i64) (.pr (.int .i64) .unit)))) .unit)))))]⟩) .no) .no) (.seq .no (.seq (.seq .no (.loop ⟨[4], [(2, 2, [], 0), (8, 8, [], 0)], [(9, (.int .i64))], [(2, 29, (.st (.pr .str (.pr .str (.pr (.st (.pr (.int .i64) (.pr (.int .i64) (.pr (.int .i64) .unit)))) .unit))))), (8, 29, (.st (.pr .str (.pr .str (.pr (.st (.pr (.int .i64) (.pr (.int .i64) (.pr (.int .i64) .unit)))) .unit)))))]⟩ (.more (.ext 0) ⟨[], [(2, 2, [], 0), (8, 8, [], 0)], [], [(2, 29, (.st (.pr .str (.pr .str (.pr (.st (.pr (.int .i64) (.pr (.int .i64) (.pr (.int .i64) .unit)))) .unit))))), (8, 29, (.st (.pr .str (.pr .str (.pr (.st (.pr (.int .i64) (.pr (.int .i64) (.pr (.int .i64) .unit)))) .unit)))))]⟩ (.one .ret ⟨[], [(2, 2, [], 0)], [(3, (.int .i64))], [(2, 29, (.st (.pr .str (.pr .str (.pr (.st (.pr (.int .i64) (.pr (.int .i64) (.pr (.int .i64) .unit)))) .unit)))))]⟩)) (.seq .no (.seq (.join (.more .ret ⟨[], [(2, 2, [], 0)], [(3, (.int .i64))], [(2, 29, (.st (.pr .str (.pr .str (.pr (.st (.pr (.int .i64) (.pr (.int .i64) (.pr (.int .i64) .unit)))) .unit)))))]⟩ (.one .nrm ⟨[4], [(2, 2, [], 0), (8, 8, [], 0)], [(9, (.int .i64))], [(2, 29, (.st (.pr .str (.pr .str (.pr (.st (.pr (.int .i64) (.pr (.int .i64) (.pr (.int .i64) .unit)))) .unit))))), (8, 29, (.st (.pr .str (.pr .str (.pr (.st (.pr (.int .i64) (.pr (.int .i64) (.pr (.int .i64) .unit)))) .unit)))))]⟩)) (.seq (.seq .no (.cnd (.seq .no (.seq (.seq (.join (.one .nrm ⟨[4, 9, 10], [(2, 2, [], 0), (8, 8, [], 0)], [(72, .bool)], [(2, 29, (.st (.pr .str (.pr .str (.pr (.st (.pr (.int .i64) (.pr (.int .i64) (.pr (.int .i64) .unit)))) .unit))))), (8, 29, (.st (.pr .str (.pr .str (.pr (.st (.pr (.int .i64) (.pr (.int .i64) (.pr (.int .i64) .unit)))) .unit)))))]⟩) .no) .no) .no)) .no)) .no)) .no)))) .no))))))))
noncomputable def style_Parse (a0 : List (UInt8)) : Option (((List (UInt8)) × ((List (UInt8)) × (((Int) × ((Int) × ((Int) × (Unit)))) × (Unit)))) × (Int)) :=
 bif (decide ((4096 : Int) < (((List.length a0) : Nat) : Int))) then some ((([] : List (UInt8)), (([] : List (UInt8)), (((0 : Int), ((0 : Int), ((0 : Int), ()))), ()))), (2 : Int))
 else ((Go.Fn.strings_FieldsFunc a0 ())).bind fun r1 =>
 bif (decide (((((List.length r1) : Nat) : Int) : Int) = (0 : Int))) then some ((([] : List (UInt8)), (([] : List (UInt8)), (((0 : Int), ((0 : Int), ((0 : Int), ()))), ()))), (67 : Int))
 else ((Go.Lf.idx r1 (0 : Int))).bind fun r2 =>
 ((Go.Fn.strings_Cut r2 ((58 : UInt8) :: ([] : List (UInt8))))).bind fun r3 =>
 (((Go.Fn.style_named r3.1)).bind fun r4 =>
   bif (!(!r4)) then bif r3.2.2 then ((Go.Fn.style_named r3.2.1)).bind fun r5 =>
   some ((!r5), (([] : List (UInt8)), (([] : List (UInt8)), (((0 : Int), ((0 : Int), ((0 : Int), ()))), ()))))
   else some (false, (([] : List (UInt8)), (([] : List (UInt8)), (((0 : Int), ((0 : Int), ((0 : Int), ()))), ()))))
   else some (true, (([] : List (UInt8)), (([] : List (UInt8)), (((0 : Int), ((0 : Int), ((0 : Int), ()))), ()))))).bind fun r6 =>
 bif r6.1 then some ((([] : List (UInt8)), (([] : List (UInt8)), (((0 : Int), ((0 : Int), ((0 : Int), ()))), ()))), (67 : Int))
 else (Go.Fn.style_plain).bind fun r7 =>
 (Go.Lf.loopC (σ := (Int) × (((List (UInt8)) × ((List (UInt8)) × (((Int) × ((Int) × ((Int) × (Unit)))) × (Unit)))) × ((List (UInt8)) × ((List (UInt8)) × (((Int) × ((Int) × ((Int) × (Unit)))) × (Unit)))))) (κ := (((List (UInt8)) × ((List (UInt8)) × (((Int) × ((Int) × ((Int) × (Unit)))) × (Unit)))) × ((List (UInt8)) × ((List (UInt8)) × (((Int) × ((Int) × ((Int) × (Unit)))) × (Unit))))) ⊕ ((Int) × ((List (UInt8)) × ((List (UInt8)) × (((Int) × ((Int) × ((Int) × (Unit)))) × (Unit)))))) (fun z8 =>
     bif (decide (z8.1 < (((List.length r1) : Nat) : Int))) then (((Go.Lf.idx r1 z8.1)).bind fun r9 =>
       bif (decide ((r9 : List (UInt8)) = ((99 : UInt8) :: ((111 : UInt8) :: ((108 : UInt8) :: ((111 : UInt8) :: ((114 : UInt8) :: ([] : List (UInt8))))))))) then ((Go.Lf.sub r1 (Go.IntKind.wrap .i64 (z8.1 + (1 : Int))) (((List.length r1) : Nat) : Int))).bind fun r10 =>
       ((Go.Fn.style_color r10)).bind fun r11 =>
       (bif (!(!r11.2)) then some ((decide ((z8.2.2.2.2.1.2.2.1 : Int) ≠ (-(1 : Int)))), (z8.2.1, z8.2.2))
         else some (true, (z8.2.1, z8.2.2))).bind fun r12 =>
       bif r12.1 then some (.inl ((67 : Int), (([] : List (UInt8)), (([] : List (UInt8)), (((0 : Int), ((0 : Int), ((0 : Int), ()))), ())))))
       else some (.inr ((Go.IntKind.wrap .i64 (z8.1 + (1 : Int))), (r12.2.1, (r12.2.2.1, (r12.2.2.2.1, ((r12.2.2.2.2.1.1, (r12.2.2.2.2.1.2.1, (r11.1, r12.2.2.2.2.1.2.2.2))), r12.2.2.2.2.2))))))
       else ((Go.Lf.idx r1 z8.1)).bind fun r13 =>
       ((Go.Fn.style_attribute z8.2.2 r13)).bind fun r14 =>
       bif (!r14.1) then some (.inl ((67 : Int), (([] : List (UInt8)), (([] : List (UInt8)), (((0 : Int), ((0 : Int), ((0 : Int), ()))), ())))))
       else some (.inr (z8.1, (z8.2.1, r14.2))) : Option (((Int) × ((List (UInt8)) × ((List (UInt8)) × (((Int) × ((Int) × ((Int) × (Unit)))) × (Unit))))) ⊕ ((Int) × (((List (UInt8)) × ((List (UInt8)) × (((Int) × ((Int) × ((Int) × (Unit)))) × (Unit)))) × ((List (UInt8)) × ((List (UInt8)) × (((Int) × ((Int) × ((Int) × (Unit)))) × (Unit)))))))).bind fun r15 =>
     Go.Lf.onSum r15 (fun a16 =>
     some (.inr (.inr (a16.1, a16.2)))) (fun b17 =>
     some (.inl ((Go.IntKind.wrap .i64 (b17.1 + (1 : Int))), (b17.2.1, b17.2.2))))
     else some (.inr (.inl (z8.2.1, z8.2.2)))) ((1 : Int), (r6.2, (r3.1, (r3.2.1, (r7, ()))))) : Option ((((List (UInt8)) × ((List (UInt8)) × (((Int) × ((Int) × ((Int) × (Unit)))) × (Unit)))) × ((List (UInt8)) × ((List (UInt8)) × (((Int) × ((Int) × ((Int) × (Unit)))) × (Unit))))) ⊕ ((Int) × ((List (UInt8)) × ((List (UInt8)) × (((Int) × ((Int) × ((Int) × (Unit)))) × (Unit))))))).bind fun r18 =>
 Go.Lf.onSum r18 (fun a19 =>
 some (a19.2, (0 : Int))) (fun b20 =>
 some (b20.2, b20.1))
theorem style_Parse_eq (a0 : List (UInt8)) : Go.Lf.fnE style_ParseCtx style_ParseCode style_ParseAnn [.val .str] [(.st (.pr .str (.pr .str (.pr (.st (.pr (.int .i64) (.pr (.int .i64) (.pr (.int .i64) .unit)))) .unit)))), (.int .i64)] [.cell 2 29, .tmp 3] (a0) = style_Parse a0 := by kernel_rfl
noncomputable def style_ParseEnt : Nat × Go.Lf.Entry := (31, ⟨[.val .str], [(.st (.pr .str (.pr .str (.pr (.st (.pr (.int .i64) (.pr (.int .i64) (.pr (.int .i64) .unit)))) .unit)))), (.int .i64)], fun z => style_Parse z⟩)
theorem style_Parse_ok : Go.Lf.EntryOk Go.Proofs.Tryd.prog GG 31 style_ParseEnt.2 :=
  Go.Lf.fn_ok (c := style_ParseCtx) (code := style_ParseCode) (an := style_ParseAnn) (slots := [.cell 2 29, .tmp 3]) (fn := Go.Proofs.Tryd.f31) (by kernel_rfl) ⟨Tys_ok, Go.Lf.FnsOk.look (.con style_named_ok (.con strings_FieldsFunc_ok (.con strings_Cut_ok (.con style_plain_ok (.con style_color_ok (.con style_attribute_ok .nil))))))⟩ (by kernel_rfl) (by kernel_rfl) (by kernel_rfl) (by kernel_rfl) (by kernel_rfl) (Nat.le_of_ble_eq_true rfl) (by simp [Go.Lf.Ty.top]) (by simp [Go.Lf.Ty.top]) fun z r h => (style_Parse_eq z).trans h
noncomputable def style_WriteCtx : Go.Lf.Ctx := ⟨85, Tys, [style_namedEnt, style_changeEnt, style_wordsEnt, strconv_ItoaEnt], [], [], []⟩
noncomputable def style_WriteCode : Go.Code := (Go.Proofs.Tryd.f33.body).getD .skip
def style_WriteAnn : Go.Lf.Ann := (.seq .no (.seq .no (.seq .no (.seq (.seq (.join (.one .nrm ⟨[], [(1, 1, [], 0)], [(29, .bool)], [(1, 29, (.st (.pr .str (.pr .str (.pr (.st (.pr (.int .i64) (.pr (.int .i64) (.pr (.int .i64) .unit)))) .unit)))))]⟩) .no) .no) (.seq .no (.seq (.join (.one .nrm ⟨[], [(1, 1, [], 0)], [(5, .str)], [(1, 29, (.st (.pr .str (.pr .str (.pr (.st (.pr (.int .i64) (.pr (.int .i64) (.pr (.int .i64) .unit)))) .unit)))))]⟩) .no) (.seq (.seq .no (.loop ⟨[40], [(1, 1, [], 0)], [(5, .str), (41, (.int .i64))], [(1, 29, (.st (.pr .str (.pr .str (.pr (.st (.pr (.int .i64) (.pr (.int .i64) (.pr (.int .i64) .unit)))) .unit)))))]⟩ (.one (.ext 0) ⟨[], [(1, 1, [], 0)], [(5, .str)], [(1, 29, (.st (.pr .str (.pr .str (.pr (.st (.pr (.int .i64) (.pr (.int .i64) (.pr (.int .i64) .unit)))) .unit)))))]⟩) (.seq .no (.seq .no (.seq (.seq .no (.seq .no (.seq .no (.loop ⟨[7, 8, 54, 40, 41, 55], [(1, 1, [], 0)], [(56, (.int .i64)), (5, .str)], [(1, 29, (.st (.pr .str (.pr .str (.pr (.st (.pr (.int .i64) (.pr (.int .i64) (.pr (.int .i64) .unit)))) .unit)))))]⟩ (.one (.ext 2) ⟨[40, 41], [(1, 1, [], 0)], [(5, .str)], [(1, 29, (.st (.pr .str (.pr .str (.pr (.st (.pr (.int .i64) (.pr (.int .i64) (.pr (.int .i64) .unit)))) .unit)))))]⟩) (.seq .no (.seq .no (.seq (.join (.one .nrm ⟨[7, 8, 54, 40, 41, 55, 56], [(1, 1, [], 0)], [(5, .str)], [(1, 29, (.st (.pr .str (.pr .str (.pr (.st (.pr (.int .i64) (.pr (.int .i64) (.pr (.int .i64) .unit)))) .unit)))))]⟩) .no) .no))))))) .no))))) (.seq (.join (.one .nrm ⟨[], [], [(5, .str)], []⟩) .no) .no))))))))
noncomputable def style_Write (a0 : (List (UInt8)) × ((List (UInt8)) × (((Int) × ((Int) × ((Int) × (Unit)))) × (Unit)))) : Option ((List (UInt8)) × (Int)) :=
 ((Go.Fn.style_named a0.1)).bind fun r1 =>
 bif (!r1) then some (([] : List (UInt8)), (60 : Int))
 else ((Go.Fn.style_change a0.2.2.1)).bind fun r2 =>
 bif (decide ((r2 : Int) ≠ (0 : Int))) then some (([] : List (UInt8)), r2)
 else (bif (decide ((a0.2.1 : List (UInt8)) ≠ ([] : List (UInt8)))) then ((Go.Fn.style_named a0.2.1)).bind fun r3 =>
   some ((!r3), a0)
   else some (false, a0)).bind fun r4 =>
 bif r4.1 then some (([] : List (UInt8)), (64 : Int))
 else (bif (decide ((r4.2.2.1 : List (UInt8)) ≠ ([] : List (UInt8)))) then ((Go.Lf.cat ((58 : UInt8) :: ([] : List (UInt8))) r4.2.2.1)).bind fun r5 =>
   ((Go.Lf.cat r4.2.1 r5)).bind fun r6 =>
   some (r6, r4.2)
   else some (r4.2.1, r4.2)).bind fun r7 =>
 (Go.Lf.loopC (σ := (List (UInt8)) × ((Int) × ((List (UInt8)) × ((List (UInt8)) × (((Int) × ((Int) × ((Int) × (Unit)))) × (Unit)))))) (κ := (List (UInt8)) × ((List (UInt8)) × ((List (UInt8)) × (((Int) × ((Int) × ((Int) × (Unit)))) × (Unit))))) (fun z8 =>
     bif (decide (z8.2.1 < (2 : Int))) then ((Go.Lf.idx (((32 : UInt8) :: ((43 : UInt8) :: ([] : List (UInt8)))) :: (((32 : UInt8) :: ((45 : UInt8) :: ([] : List (UInt8)))) :: ([] : List (List (UInt8))))) z8.2.1)).bind fun r9 =>
     ((Go.Lf.idx (z8.2.2.2.2.1.1 :: (z8.2.2.2.2.1.2.1 :: ([] : List (Int)))) z8.2.1)).bind fun r10 =>
     (Go.Fn.style_words).bind fun r11 =>
     (Go.Lf.loopC (σ := (Int) × ((List (UInt8)) × ((List (UInt8)) × ((List (UInt8)) × (((Int) × ((Int) × ((Int) × (Unit)))) × (Unit)))))) (κ := (List (UInt8)) × ((List (UInt8)) × ((List (UInt8)) × (((Int) × ((Int) × ((Int) × (Unit)))) × (Unit))))) (fun z12 =>
         bif (decide (z12.1 < (((List.length r11) : Nat) : Int))) then (((Go.Lf.idx r11 z12.1)).bind fun r13 =>
           ((Go.Lf.nn z12.1 (Int.fdiv r10 ((2 : Int) ^ (Min.min (Int.toNat z12.1) (64 : Nat)))))).bind fun r14 =>
           bif (decide (((Go.Lf.bits .and .i64 r14 (1 : Int)) : Int) = (1 : Int))) then ((Go.Lf.cat r9 r13)).bind fun r15 =>
           ((Go.Lf.cat z12.2.1 r15)).bind fun r16 =>
           some (r16, z12.2.2)
           else some (z12.2.1, z12.2.2)).bind fun r17 =>
         some (.inl ((Go.IntKind.wrap .i64 (z12.1 + (1 : Int))), (r17.1, r17.2)))
         else some (.inr (z12.2.1, z12.2.2))) ((0 : Int), (z8.1, z8.2.2)) : Option ((List (UInt8)) × ((List (UInt8)) × ((List (UInt8)) × (((Int) × ((Int) × ((Int) × (Unit)))) × (Unit)))))).bind fun r18 =>
     some (.inl (r18.1, ((Go.IntKind.wrap .i64 (z8.2.1 + (1 : Int))), r18.2)))
     else some (.inr (z8.1, z8.2.2))) (r7.1, ((0 : Int), r7.2)) : Option ((List (UInt8)) × ((List (UInt8)) × ((List (UInt8)) × (((Int) × ((Int) × ((Int) × (Unit)))) × (Unit)))))).bind fun r19 =>
 (bif (decide ((r19.2.2.2.1.2.2.1 : Int) ≠ (-(1 : Int)))) then ((Go.Fn.strconv_Itoa r19.2.2.2.1.2.2.1)).bind fun r20 =>
   ((Go.Lf.cat ((32 : UInt8) :: ((99 : UInt8) :: ((111 : UInt8) :: ((108 : UInt8) :: ((111 : UInt8) :: ((114 : UInt8) :: ((32 : UInt8) :: ([] : List (UInt8))))))))) r20)).bind fun r21 =>
   ((Go.Lf.cat r19.1 r21)).bind fun r22 =>
   some r22
   else some r19.1).bind fun r23 =>
 some (r23, (0 : Int))
theorem style_Write_eq (a0 : (List (UInt8)) × ((List (UInt8)) × (((Int) × ((Int) × ((Int) × (Unit)))) × (Unit)))) : Go.Lf.fnE style_WriteCtx style_WriteCode style_WriteAnn [.val (.st (.pr .str (.pr .str (.pr (.st (.pr (.int .i64) (.pr (.int .i64) (.pr (.int .i64) .unit)))) .unit))))] [.str, (.int .i64)] [.tmp 2, .tmp 3] (a0) = style_Write a0 := by kernel_rfl
noncomputable def style_WriteEnt : Nat × Go.Lf.Entry := (33, ⟨[.val (.st (.pr .str (.pr .str (.pr (.st (.pr (.int .i64) (.pr (.int .i64) (.pr (.int .i64) .unit)))) .unit))))], [.str, (.int .i64)], fun z => style_Write z⟩)
theorem style_Write_ok : Go.Lf.EntryOk Go.Proofs.Tryd.prog GG 33 style_WriteEnt.2 :=
  Go.Lf.fn_ok (c := style_WriteCtx) (code := style_WriteCode) (an := style_WriteAnn) (slots := [.tmp 2, .tmp 3]) (fn := Go.Proofs.Tryd.f33) (by kernel_rfl) ⟨Tys_ok, Go.Lf.FnsOk.look (.con style_named_ok (.con style_change_ok (.con style_words_ok (.con strconv_Itoa_ok .nil))))⟩ (by kernel_rfl) (by kernel_rfl) (by kernel_rfl) (by kernel_rfl) (by kernel_rfl) (Nat.le_of_ble_eq_true rfl) (by simp [Go.Lf.Ty.top]) (by simp [Go.Lf.Ty.top]) fun z r h => (style_Write_eq z).trans h
noncomputable def style_BaseCtx : Go.Lf.Ctx := ⟨27, Tys, [], [0, 3, 12, 26], [], [(0, (.rw 29 (.st (.pr .str (.pr .str (.pr (.st (.pr (.int .i64) (.pr (.int .i64) (.pr (.int .i64) .unit)))) .unit)))))), (3, (.rw 29 (.st (.pr .str (.pr .str (.pr (.st (.pr (.int .i64) (.pr (.int .i64) (.pr (.int .i64) .unit)))) .unit)))))), (12, (.rw 29 (.st (.pr .str (.pr .str (.pr (.st (.pr (.int .i64) (.pr (.int .i64) (.pr (.int .i64) .unit)))) .unit)))))), (26, (.rw 29 (.st (.pr .str (.pr .str (.pr (.st (.pr (.int .i64) (.pr (.int .i64) (.pr (.int .i64) .unit)))) .unit))))))]⟩
noncomputable def style_BaseCode : Go.Code := (Go.Proofs.Tryd.f11.body).getD .skip
def style_BaseAnn : Go.Lf.Ann := (.seq .no (.seq .no (.seq .no (.seq .no (.seq (.seq .no (.loop ⟨[2, 1, 8], [], [(9, (.int .i64)), (3, (.rw 29 (.st (.pr .str (.pr .str (.pr (.st (.pr (.int .i64) (.pr (.int .i64) (.pr (.int .i64) .unit)))) .unit))))))], []⟩ (.one (.ext 0) ⟨[], [], [(3, (.rw 29 (.st (.pr .str (.pr .str (.pr (.st (.pr (.int .i64) (.pr (.int .i64) (.pr (.int .i64) .unit)))) .unit))))))], []⟩) (.seq .no (.seq .no (.seq (.seq .no (.draw 11)) .no))))) .no)))))
noncomputable def style_Base  : Option (List ((List (UInt8)) × ((List (UInt8)) × (((Int) × ((Int) × ((Int) × (Unit)))) × (Unit))))) :=
 (Go.Lf.loopC (σ := (Int) × (List ((List (UInt8)) × ((List (UInt8)) × (((Int) × ((Int) × ((Int) × (Unit)))) × (Unit)))))) (κ := List ((List (UInt8)) × ((List (UInt8)) × (((Int) × ((Int) × ((Int) × (Unit)))) × (Unit))))) (fun z1 =>
     bif (decide (z1.1 < (((List.length (((98 : UInt8) :: ([] : List (UInt8))) :: (((105 : UInt8) :: ([] : List (UInt8))) :: (((117 : UInt8) :: ([] : List (UInt8))) :: (((115 : UInt8) :: ([] : List (UInt8))) :: (((109 : UInt8) :: ([] : List (UInt8))) :: (((104 : UInt8) :: ([] : List (UInt8))) :: ([] : List (List (UInt8)))))))))) : Nat) : Int))) then ((Go.Lf.idx (((98 : UInt8) :: ([] : List (UInt8))) :: (((105 : UInt8) :: ([] : List (UInt8))) :: (((117 : UInt8) :: ([] : List (UInt8))) :: (((115 : UInt8) :: ([] : List (UInt8))) :: (((109 : UInt8) :: ([] : List (UInt8))) :: (((104 : UInt8) :: ([] : List (UInt8))) :: ([] : List (List (UInt8))))))))) z1.1)).bind fun r2 =>
     ((Go.Lf.idx ((1 : Int) :: ((2 : Int) :: ((4 : Int) :: ((8 : Int) :: ((16 : Int) :: ((5 : Int) :: ([] : List (Int)))))))) z1.1)).bind fun r3 =>
     ((Go.Lf.app (56 : Nat) z1.2 ((r2, (([] : List (UInt8)), ((r3, ((0 : Int), ((-(1 : Int)), ()))), ()))) :: ([] : List ((List (UInt8)) × ((List (UInt8)) × (((Int) × ((Int) × ((Int) × (Unit)))) × (Unit)))))))).bind fun r4 =>
     some (.inl ((Go.IntKind.wrap .i64 (z1.1 + (1 : Int))), r4))
     else some (.inr z1.2)) ((0 : Int), ([] : List ((List (UInt8)) × ((List (UInt8)) × (((Int) × ((Int) × ((Int) × (Unit)))) × (Unit)))))) : Option (List ((List (UInt8)) × ((List (UInt8)) × (((Int) × ((Int) × ((Int) × (Unit)))) × (Unit)))))).bind fun r5 =>
 some r5
theorem style_Base_eq  : Go.Lf.fnE style_BaseCtx style_BaseCode style_BaseAnn [] [(.rw 29 (.st (.pr .str (.pr .str (.pr (.st (.pr (.int .i64) (.pr (.int .i64) (.pr (.int .i64) .unit)))) .unit)))))] [.tmp 0] () = style_Base  := by kernel_rfl
noncomputable def style_BaseEnt : Nat × Go.Lf.Entry := (11, ⟨[], [(.rw 29 (.st (.pr .str (.pr .str (.pr (.st (.pr (.int .i64) (.pr (.int .i64) (.pr (.int .i64) .unit)))) .unit)))))], fun _ => style_Base ⟩)
theorem style_Base_ok : Go.Lf.EntryOk Go.Proofs.Tryd.prog GG 11 style_BaseEnt.2 :=
  Go.Lf.fn_ok (c := style_BaseCtx) (code := style_BaseCode) (an := style_BaseAnn) (slots := [.tmp 0]) (fn := Go.Proofs.Tryd.f11) (by kernel_rfl) ⟨Tys_ok, Go.Lf.FnsOk.look .nil⟩ (by kernel_rfl) (by kernel_rfl) (by kernel_rfl) (by kernel_rfl) (by kernel_rfl) (Nat.le_of_ble_eq_true rfl) (by simp [Go.Lf.Ty.top]) (by simp [Go.Lf.Ty.top]) fun z r h => (style_Base_eq ).trans h
noncomputable def foliolaw06_awakeCtx : Go.Lf.Ctx := ⟨64, Tys, [style_BaseEnt, folioref06_BaseEnt, foliolaw06_sameEnt, foliolaw06_lookEnt, style_WholeEnt, style_NestEnt, style_ParseEnt, style_WriteEnt], [], [], []⟩
noncomputable def foliolaw06_awakeCode : Go.Code := (Go.Proofs.Tryd.f13.body).getD .skip
def foliolaw06_awakeAnn : Go.Lf.Ann := (.seq .no (.seq .no (.seq .no (.seq .no (.seq .no (.seq (.join (.one .nrm ⟨[], [], [(0, .bool)], []⟩) .no) .no))))))
noncomputable def foliolaw06_awake  : Option (Bool) :=
 (Go.Fn.folioref06_Base).bind fun r1 =>
 ((Go.Fn.style_Whole r1 ((104 : UInt8) :: ([] : List (UInt8))))).bind fun r2 =>
 (Go.Fn.folioref06_Base).bind fun r3 =>
 ((Go.Fn.style_Nest r3 (((98 : UInt8) :: ([] : List (UInt8))) :: (((105 : UInt8) :: ([] : List (UInt8))) :: ([] : List (List (UInt8))))))).bind fun r4 =>
 ((Go.Fn.style_Parse ((32 : UInt8) :: ((119 : UInt8) :: ((97 : UInt8) :: ((114 : UInt8) :: ((110 : UInt8) :: ((58 : UInt8) :: ((98 : UInt8) :: ((32 : UInt8) :: ((32 : UInt8) :: ((99 : UInt8) :: ((111 : UInt8) :: ((108 : UInt8) :: ((111 : UInt8) :: ((114 : UInt8) :: ((32 : UInt8) :: ((49 : UInt8) :: ((32 : UInt8) :: ((43 : UInt8) :: ((117 : UInt8) :: ((110 : UInt8) :: ((100 : UInt8) :: ((101 : UInt8) :: ((114 : UInt8) :: ((32 : UInt8) :: ((45 : UInt8) :: ((98 : UInt8) :: ((111 : UInt8) :: ((108 : UInt8) :: ((100 : UInt8) :: ((32 : UInt8) :: ([] : List (UInt8)))))))))))))))))))))))))))))))))).bind fun r5 =>
 ((Go.Fn.style_Write r5.1)).bind fun r6 =>
 (bif (decide ((r2.2 : Int) = (0 : Int))) then ((Go.Fn.foliolaw06_same r2.1 ((5 : Int), ((0 : Int), ((-(1 : Int)), ()))))).bind fun r7 =>
   bif r7 then bif (decide ((r4.2.2 : Int) = (0 : Int))) then ((Go.Fn.foliolaw06_look r4.1 ((3 : Int), ((7 : Int), ())))).bind fun r8 =>
   bif r8 then bif (decide ((r5.2 : Int) = (0 : Int))) then bif (decide ((r6.2 : Int) = (0 : Int))) then bif (decide ((r6.1 : List (UInt8)) = ((119 : UInt8) :: ((97 : UInt8) :: ((114 : UInt8) :: ((110 : UInt8) :: ((58 : UInt8) :: ((98 : UInt8) :: ((32 : UInt8) :: ((43 : UInt8) :: ((117 : UInt8) :: ((110 : UInt8) :: ((100 : UInt8) :: ((101 : UInt8) :: ((114 : UInt8) :: ((32 : UInt8) :: ((45 : UInt8) :: ((98 : UInt8) :: ((111 : UInt8) :: ((108 : UInt8) :: ((100 : UInt8) :: ((32 : UInt8) :: ((99 : UInt8) :: ((111 : UInt8) :: ((108 : UInt8) :: ((111 : UInt8) :: ((114 : UInt8) :: ((32 : UInt8) :: ((49 : UInt8) :: ([] : List (UInt8))))))))))))))))))))))))))))))) then (Go.Fn.style_Base).bind fun r9 =>
   some (decide (((((List.length r9) : Nat) : Int) : Int) = (6 : Int)))
   else some false
   else some false
   else some false
   else some false
   else some false
   else some false
   else some false).bind fun r10 =>
 some r10
theorem foliolaw06_awake_eq  : Go.Lf.fnE foliolaw06_awakeCtx foliolaw06_awakeCode foliolaw06_awakeAnn [] [.bool] [.tmp 0] () = foliolaw06_awake  := by kernel_rfl
noncomputable def foliolaw06_awakeEnt : Nat × Go.Lf.Entry := (13, ⟨[], [.bool], fun _ => foliolaw06_awake ⟩)
theorem foliolaw06_awake_ok : Go.Lf.EntryOk Go.Proofs.Tryd.prog GG 13 foliolaw06_awakeEnt.2 :=
  Go.Lf.fn_ok (c := foliolaw06_awakeCtx) (code := foliolaw06_awakeCode) (an := foliolaw06_awakeAnn) (slots := [.tmp 0]) (fn := Go.Proofs.Tryd.f13) (by kernel_rfl) ⟨Tys_ok, Go.Lf.FnsOk.look (.con style_Base_ok (.con folioref06_Base_ok (.con foliolaw06_same_ok (.con foliolaw06_look_ok (.con style_Whole_ok (.con style_Nest_ok (.con style_Parse_ok (.con style_Write_ok .nil))))))))⟩ (by kernel_rfl) (by kernel_rfl) (by kernel_rfl) (by kernel_rfl) (by kernel_rfl) (Nat.le_of_ble_eq_true rfl) (by simp [Go.Lf.Ty.top]) (by simp [Go.Lf.Ty.top]) fun z r h => (foliolaw06_awake_eq ).trans h
noncomputable def foliolaw06_StyleChangesCtx : Go.Lf.Ctx := ⟨26, Tys, [foliolaw06_awakeEnt, foliolaw06_sameEnt, style_ThenEnt, folioref06_ThenEnt, foliolaw06_lookEnt, style_ApplyEnt, folioref06_ApplyEnt], [], [], []⟩
noncomputable def foliolaw06_StyleChangesCode : Go.Code := (Go.Proofs.Tryd.f4.body).getD .skip
def foliolaw06_StyleChangesAnn : Go.Lf.Ann := (.seq .no (.seq (.join (.one .nrm ⟨[], [], [(6, .bool)], []⟩) (.draw 20)) .no))
noncomputable def foliolaw06_StyleChanges (a0 : (Int) × ((Int) × ((Int) × (Unit)))) (a1 : (Int) × ((Int) × ((Int) × (Unit)))) (a2 : (Int) × ((Int) × (Unit))) : Option (Bool) :=
 (((Go.Fn.style_Then a0 a1)).bind fun r1 =>
   ((Go.Fn.folioref06_Then a0 a1)).bind fun r2 =>
   ((Go.Fn.foliolaw06_same r1 r2)).bind fun r3 =>
   bif r3 then ((Go.Fn.style_Apply a2 a0)).bind fun r4 =>
   ((Go.Fn.folioref06_Apply a2 a0)).bind fun r5 =>
   ((Go.Fn.foliolaw06_look r4 r5)).bind fun r6 =>
   bif r6 then (Go.Fn.foliolaw06_awake).bind fun r7 =>
   some r7
   else some false
   else some false).bind fun r8 =>
 some r8
theorem foliolaw06_StyleChanges_eq (a0 : (Int) × ((Int) × ((Int) × (Unit)))) (a1 : (Int) × ((Int) × ((Int) × (Unit)))) (a2 : (Int) × ((Int) × (Unit))) : Go.Lf.fnE foliolaw06_StyleChangesCtx foliolaw06_StyleChangesCode foliolaw06_StyleChangesAnn [.val (.st (.pr (.int .i64) (.pr (.int .i64) (.pr (.int .i64) .unit)))), .val (.st (.pr (.int .i64) (.pr (.int .i64) (.pr (.int .i64) .unit)))), .val (.st (.pr (.int .i64) (.pr (.int .i64) .unit)))] [.bool] [.tmp 6] (a0, a1, a2) = foliolaw06_StyleChanges a0 a1 a2 := by kernel_rfl
noncomputable def foliolaw06_StyleChangesEnt : Nat × Go.Lf.Entry := (4, ⟨[.val (.st (.pr (.int .i64) (.pr (.int .i64) (.pr (.int .i64) .unit)))), .val (.st (.pr (.int .i64) (.pr (.int .i64) (.pr (.int .i64) .unit)))), .val (.st (.pr (.int .i64) (.pr (.int .i64) .unit)))], [.bool], fun z => foliolaw06_StyleChanges z.1 z.2.1 z.2.2⟩)
theorem foliolaw06_StyleChanges_ok : Go.Lf.EntryOk Go.Proofs.Tryd.prog GG 4 foliolaw06_StyleChangesEnt.2 :=
  Go.Lf.fn_ok (c := foliolaw06_StyleChangesCtx) (code := foliolaw06_StyleChangesCode) (an := foliolaw06_StyleChangesAnn) (slots := [.tmp 6]) (fn := Go.Proofs.Tryd.f4) (by kernel_rfl) ⟨Tys_ok, Go.Lf.FnsOk.look (.con foliolaw06_awake_ok (.con foliolaw06_same_ok (.con style_Then_ok (.con folioref06_Then_ok (.con foliolaw06_look_ok (.con style_Apply_ok (.con folioref06_Apply_ok .nil)))))))⟩ (by kernel_rfl) (by kernel_rfl) (by kernel_rfl) (by kernel_rfl) (by kernel_rfl) (Nat.le_of_ble_eq_true rfl) (by simp [Go.Lf.Ty.top]) (by simp [Go.Lf.Ty.top]) fun z r h => (foliolaw06_StyleChanges_eq z.1 z.2.1 z.2.2).trans h
noncomputable def foliolaw06_apartCtx : Go.Lf.Ctx := ⟨9, Tys, [], [], [], []⟩
noncomputable def foliolaw06_apartCode : Go.Code := (Go.Proofs.Tryd.f35.body).getD .skip
def foliolaw06_apartAnn : Go.Lf.Ann := .no
noncomputable def foliolaw06_apart (a0 : (Int) × ((Int) × ((Int) × (Unit)))) : Option (Bool) :=
 some (decide (((Go.Lf.bits .and .i64 a0.1 a0.2.1) : Int) = (0 : Int)))
theorem foliolaw06_apart_eq (a0 : (Int) × ((Int) × ((Int) × (Unit)))) : Go.Lf.fnE foliolaw06_apartCtx foliolaw06_apartCode foliolaw06_apartAnn [.val (.st (.pr (.int .i64) (.pr (.int .i64) (.pr (.int .i64) .unit))))] [.bool] [.tmp 2] (a0) = foliolaw06_apart a0 := by kernel_rfl
noncomputable def foliolaw06_apartEnt : Nat × Go.Lf.Entry := (35, ⟨[.val (.st (.pr (.int .i64) (.pr (.int .i64) (.pr (.int .i64) .unit))))], [.bool], fun z => foliolaw06_apart z⟩)
theorem foliolaw06_apart_ok : Go.Lf.EntryOk Go.Proofs.Tryd.prog GG 35 foliolaw06_apartEnt.2 :=
  Go.Lf.fn_ok (c := foliolaw06_apartCtx) (code := foliolaw06_apartCode) (an := foliolaw06_apartAnn) (slots := [.tmp 2]) (fn := Go.Proofs.Tryd.f35) (by kernel_rfl) ⟨Tys_ok, Go.Lf.FnsOk.look .nil⟩ (by kernel_rfl) (by kernel_rfl) (by kernel_rfl) (by kernel_rfl) (by kernel_rfl) (Nat.le_of_ble_eq_true rfl) (by simp [Go.Lf.Ty.top]) (by simp [Go.Lf.Ty.top]) fun z r h => (foliolaw06_apart_eq z).trans h
noncomputable def foliolaw06_StyleAssociatesCtx : Go.Lf.Ctx := ⟨71, Tys, [foliolaw06_awakeEnt, foliolaw06_sameEnt, style_ThenEnt, foliolaw06_lookEnt, style_ApplyEnt, foliolaw06_apartEnt], [], [], []⟩
noncomputable def foliolaw06_StyleAssociatesCode : Go.Code := (Go.Proofs.Tryd.f7.body).getD .skip
def foliolaw06_StyleAssociatesAnn : Go.Lf.Ann := (.seq .no (.seq .no (.seq (.seq (.join (.one .nrm ⟨[], [(7, 7, [], 0), (4, 4, [], 0), (6, 6, [], 0), (5, 5, [], 0)], [(24, .bool)], [(7, 40, (.st (.pr (.int .i64) (.pr (.int .i64) .unit)))), (4, 27, (.st (.pr (.int .i64) (.pr (.int .i64) (.pr (.int .i64) .unit))))), (6, 27, (.st (.pr (.int .i64) (.pr (.int .i64) (.pr (.int .i64) .unit))))), (5, 27, (.st (.pr (.int .i64) (.pr (.int .i64) (.pr (.int .i64) .unit)))))]⟩) .no) .no) (.seq .no (.seq (.join (.one .nrm ⟨[], [], [(8, .bool)], []⟩) (.draw 46)) .no)))))
noncomputable def foliolaw06_StyleAssociates (a0 : (Int) × ((Int) × ((Int) × (Unit)))) (a1 : (Int) × ((Int) × ((Int) × (Unit)))) (a2 : (Int) × ((Int) × ((Int) × (Unit)))) (a3 : (Int) × ((Int) × (Unit))) : Option (Bool) :=
 (Go.Fn.foliolaw06_awake).bind fun r1 =>
 bif (!r1) then some false
 else (((Go.Fn.foliolaw06_apart a0)).bind fun r2 =>
   bif (!(!r2)) then ((Go.Fn.foliolaw06_apart a1)).bind fun r3 =>
   bif (!(!r3)) then ((Go.Fn.foliolaw06_apart a2)).bind fun r4 =>
   some ((!r4), (a3, (a0, (a2, a1))))
   else some (true, (a3, (a0, (a2, a1))))
   else some (true, (a3, (a0, (a2, a1))))).bind fun r5 =>
 bif r5.1 then some true
 else (((Go.Fn.style_Apply r5.2.1 r5.2.2.1)).bind fun r6 =>
   ((Go.Fn.style_Apply r6 r5.2.2.2.2)).bind fun r7 =>
   ((Go.Fn.style_Then r5.2.2.1 r5.2.2.2.2)).bind fun r8 =>
   ((Go.Fn.style_Apply r5.2.1 r8)).bind fun r9 =>
   ((Go.Fn.foliolaw06_look r7 r9)).bind fun r10 =>
   bif r10 then ((Go.Fn.style_Then r5.2.2.1 r5.2.2.2.2)).bind fun r11 =>
   ((Go.Fn.style_Then r11 r5.2.2.2.1)).bind fun r12 =>
   ((Go.Fn.style_Then r5.2.2.2.2 r5.2.2.2.1)).bind fun r13 =>
   ((Go.Fn.style_Then r5.2.2.1 r13)).bind fun r14 =>
   ((Go.Fn.foliolaw06_same r12 r14)).bind fun r15 =>
   bif r15 then ((Go.Fn.style_Then r5.2.2.1 ((0 : Int), ((0 : Int), ((-(1 : Int)), ()))))).bind fun r16 =>
   ((Go.Fn.foliolaw06_same r16 r5.2.2.1)).bind fun r17 =>
   bif r17 then ((Go.Fn.style_Then ((0 : Int), ((0 : Int), ((-(1 : Int)), ()))) r5.2.2.1)).bind fun r18 =>
   ((Go.Fn.foliolaw06_same r18 r5.2.2.1)).bind fun r19 =>
   bif r19 then ((Go.Fn.style_Apply r5.2.1 ((0 : Int), ((0 : Int), ((-(1 : Int)), ()))))).bind fun r20 =>
   ((Go.Fn.foliolaw06_look r20 r5.2.1)).bind fun r21 =>
   some r21
   else some false
   else some false
   else some false
   else some false).bind fun r22 =>
 some r22
theorem foliolaw06_StyleAssociates_eq (a0 : (Int) × ((Int) × ((Int) × (Unit)))) (a1 : (Int) × ((Int) × ((Int) × (Unit)))) (a2 : (Int) × ((Int) × ((Int) × (Unit)))) (a3 : (Int) × ((Int) × (Unit))) : Go.Lf.fnE foliolaw06_StyleAssociatesCtx foliolaw06_StyleAssociatesCode foliolaw06_StyleAssociatesAnn [.val (.st (.pr (.int .i64) (.pr (.int .i64) (.pr (.int .i64) .unit)))), .val (.st (.pr (.int .i64) (.pr (.int .i64) (.pr (.int .i64) .unit)))), .val (.st (.pr (.int .i64) (.pr (.int .i64) (.pr (.int .i64) .unit)))), .val (.st (.pr (.int .i64) (.pr (.int .i64) .unit)))] [.bool] [.tmp 8] (a0, a1, a2, a3) = foliolaw06_StyleAssociates a0 a1 a2 a3 := by kernel_rfl
noncomputable def foliolaw06_StyleAssociatesEnt : Nat × Go.Lf.Entry := (7, ⟨[.val (.st (.pr (.int .i64) (.pr (.int .i64) (.pr (.int .i64) .unit)))), .val (.st (.pr (.int .i64) (.pr (.int .i64) (.pr (.int .i64) .unit)))), .val (.st (.pr (.int .i64) (.pr (.int .i64) (.pr (.int .i64) .unit)))), .val (.st (.pr (.int .i64) (.pr (.int .i64) .unit)))], [.bool], fun z => foliolaw06_StyleAssociates z.1 z.2.1 z.2.2.1 z.2.2.2⟩)
theorem foliolaw06_StyleAssociates_ok : Go.Lf.EntryOk Go.Proofs.Tryd.prog GG 7 foliolaw06_StyleAssociatesEnt.2 :=
  Go.Lf.fn_ok (c := foliolaw06_StyleAssociatesCtx) (code := foliolaw06_StyleAssociatesCode) (an := foliolaw06_StyleAssociatesAnn) (slots := [.tmp 8]) (fn := Go.Proofs.Tryd.f7) (by kernel_rfl) ⟨Tys_ok, Go.Lf.FnsOk.look (.con foliolaw06_awake_ok (.con foliolaw06_same_ok (.con style_Then_ok (.con foliolaw06_look_ok (.con style_Apply_ok (.con foliolaw06_apart_ok .nil))))))⟩ (by kernel_rfl) (by kernel_rfl) (by kernel_rfl) (by kernel_rfl) (by kernel_rfl) (Nat.le_of_ble_eq_true rfl) (by simp [Go.Lf.Ty.top]) (by simp [Go.Lf.Ty.top]) fun z r h => (foliolaw06_StyleAssociates_eq z.1 z.2.1 z.2.2.1 z.2.2.2).trans h
end Go.Fn
