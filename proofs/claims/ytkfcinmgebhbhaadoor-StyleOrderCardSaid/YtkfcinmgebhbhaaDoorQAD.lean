/- Parts of the proof. -/
import Derived.Test.YtkfcinmgebhbhaaDoorProg
import Derived.KernelRfl
import Derived.Test.YtkfcinmgebhbhaaDoorQAC
import Derived.Carry
import Derived.ChangeSame
import Derived.ChangeMaps5
import Derived.SizedLaws
import Derived.ChangeSlices
import Derived.SliceStrings
import Derived.ProofKit
import Derived.OpenShut
import Derived.Deep.DeepHandedRow
import Derived.Lib.LaidTab
open Go Go.Lf
set_option maxRecDepth 10000
namespace Go.Fn
def Tys : List (Nat × Go.Lf.TyI) := [(2, ⟨(.int .i64), 0, 0⟩),
 (3, ⟨(.int .i64), 0, 0⟩),
 (4, ⟨.bool, 0, 0⟩),
 (5, ⟨(.int .u8), 0, 0⟩),
 (6, ⟨(.int .u8), 0, 0⟩),
 (7, ⟨(.st (.pr (.int .i64) (.pr (.int .i64) (.pr .bool (.pr (.int .u8) .unit))))), 0, 0⟩),
 (8, ⟨(.st (.pr (.int .i64) (.pr (.int .i64) (.pr .bool (.pr (.int .u8) .unit))))), 0, 0⟩),
 (9, ⟨.str, 0, 0⟩),
 (10, ⟨.str, 0, 0⟩),
 (11, ⟨.str, 0, 0⟩),
 (12, ⟨(.int .u64), 0, 0⟩),
 (13, ⟨(.st (.pr .str (.pr (.int .u64) .unit))), 0, 0⟩),
 (14, ⟨(.st (.pr .str (.pr (.int .u64) .unit))), 0, 0⟩),
 (21, ⟨(.int .i32), 0, 0⟩),
 (22, ⟨(.sl (.st (.pr .str (.pr .str (.pr (.st (.pr (.int .i64) (.pr (.int .i64) (.pr (.int .i64) .unit)))) .unit))))), 29, 56⟩),
 (26, ⟨(.st (.pr (.int .i64) (.pr (.int .i64) (.pr (.int .i64) .unit)))), 0, 0⟩),
 (27, ⟨(.st (.pr (.int .i64) (.pr (.int .i64) (.pr (.int .i64) .unit)))), 0, 0⟩),
 (28, ⟨(.st (.pr .str (.pr .str (.pr (.st (.pr (.int .i64) (.pr (.int .i64) (.pr (.int .i64) .unit)))) .unit)))), 0, 0⟩),
 (29, ⟨(.st (.pr .str (.pr .str (.pr (.st (.pr (.int .i64) (.pr (.int .i64) (.pr (.int .i64) .unit)))) .unit)))), 0, 0⟩),
 (30, ⟨(.int .i64), 0, 0⟩),
 (39, ⟨(.st (.pr (.int .i64) (.pr (.int .i64) .unit))), 0, 0⟩),
 (40, ⟨(.st (.pr (.int .i64) (.pr (.int .i64) .unit))), 0, 0⟩),
 (46, ⟨(.sl .str), 9, 16⟩),
 (68, ⟨(.sl (.int .i64)), 3, 8⟩),
 (89, ⟨(.st (.pr .str (.pr .str .unit))), 9, 2⟩),
 (90, ⟨(.st (.pr (.int .i64) (.pr (.int .i64) .unit))), 3, 2⟩),
 (98, ⟨(.eb 111 .unit), 0, 0⟩),
 (101, ⟨(.int .u64), 0, 0⟩),
 (107, ⟨(.int .i64), 0, 0⟩),
 (108, ⟨(.sl (.int .u8)), 5, 1⟩),
 (114, ⟨(.st (.pr (.int .u8) (.pr (.int .u8) (.pr (.int .u8) (.pr (.int .u8) (.pr (.int .u8) (.pr (.int .u8) (.pr (.int .u8) (.pr (.int .u8) (.pr (.int .u8) (.pr (.int .u8) (.pr (.int .u8) (.pr (.int .u8) (.pr (.int .u8) (.pr (.int .u8) (.pr (.int .u8) (.pr (.int .u8) (.pr (.int .u8) (.pr (.int .u8) (.pr (.int .u8) (.pr (.int .u8) (.pr (.int .u8) (.pr (.int .u8) (.pr (.int .u8) (.pr (.int .u8) .unit))))))))))))))))))))))))), 5, 24⟩),
 (115, ⟨(.int .u64), 0, 0⟩),
 (127, ⟨(.st (.pr .str (.pr .str (.pr (.eb 111 .unit) .unit)))), 0, 0⟩)]
theorem Tys_ok : ∀ id i, Go.Lf.look Tys id = some i → Go.Lf.TyOk Go.Proofs.Tryd.prog id i := Go.Lf.tysB_ok (by kernel_rfl)
noncomputable def style_ThenCtx : Go.Lf.Ctx := ⟨32, Tys, [], [], [], []⟩
noncomputable def style_ThenCode : Go.Code := (Go.Proofs.Tryd.f21.body).getD .skip
def style_ThenAnn : Go.Lf.Ann := (.seq .no (.seq .no (.seq (.join (.one .nrm ⟨[], [(4, 4, [], 0), (5, 5, [], 0)], [], [(4, 27, (.st (.pr (.int .i64) (.pr (.int .i64) (.pr (.int .i64) .unit))))), (5, 27, (.st (.pr (.int .i64) (.pr (.int .i64) (.pr (.int .i64) .unit)))))]⟩) .no) .no)))
noncomputable def style_Then (a0 : (Int) × ((Int) × ((Int) × (Unit)))) (a1 : (Int) × ((Int) × ((Int) × (Unit)))) : Option ((Int) × ((Int) × ((Int) × (Unit)))) :=
 (bif (decide ((a1.2.2.1 : Int) = (-(1 : Int)))) then some (((0 : Int), ((0 : Int), ((0 : Int), ()))), ((Go.Lf.bits .or .i64 (Go.Lf.bits .andNot .i64 a0.1 a1.2.1) a1.1), ((Go.Lf.bits .or .i64 (Go.Lf.bits .andNot .i64 a0.2.1 a1.1) a1.2.1), (a0.2.2.1, ()))))
   else some (((0 : Int), ((0 : Int), ((0 : Int), ()))), ((Go.Lf.bits .or .i64 (Go.Lf.bits .andNot .i64 a0.1 a1.2.1) a1.1), ((Go.Lf.bits .or .i64 (Go.Lf.bits .andNot .i64 a0.2.1 a1.1) a1.2.1), (a1.2.2.1, ()))))).bind fun r1 =>
 some r1.2
theorem style_Then_eq (a0 : (Int) × ((Int) × ((Int) × (Unit)))) (a1 : (Int) × ((Int) × ((Int) × (Unit)))) : Go.Lf.fnE style_ThenCtx style_ThenCode style_ThenAnn [.val (.st (.pr (.int .i64) (.pr (.int .i64) (.pr (.int .i64) .unit)))), .val (.st (.pr (.int .i64) (.pr (.int .i64) (.pr (.int .i64) .unit))))] [(.st (.pr (.int .i64) (.pr (.int .i64) (.pr (.int .i64) .unit))))] [.cell 4 27] (a0, a1) = style_Then a0 a1 := by kernel_rfl
noncomputable def style_ThenEnt : Nat × Go.Lf.Entry := (21, ⟨[.val (.st (.pr (.int .i64) (.pr (.int .i64) (.pr (.int .i64) .unit)))), .val (.st (.pr (.int .i64) (.pr (.int .i64) (.pr (.int .i64) .unit))))], [(.st (.pr (.int .i64) (.pr (.int .i64) (.pr (.int .i64) .unit))))], fun z => style_Then z.1 z.2⟩)
theorem style_Then_ok : Go.Lf.EntryOk Go.Proofs.Tryd.prog GG 21 style_ThenEnt.2 :=
  Go.Lf.fn_ok (c := style_ThenCtx) (code := style_ThenCode) (an := style_ThenAnn) (slots := [.cell 4 27]) (fn := Go.Proofs.Tryd.f21) (by kernel_rfl) ⟨Tys_ok, Go.Lf.FnsOk.look .nil⟩ (by kernel_rfl) (by kernel_rfl) (by kernel_rfl) (by kernel_rfl) (by kernel_rfl) (Nat.le_of_ble_eq_true rfl) (by simp [Go.Lf.Ty.top]) (by simp [Go.Lf.Ty.top]) fun z r h => (style_Then_eq z.1 z.2).trans h
noncomputable def folioref06_ThenCtx : Go.Lf.Ctx := ⟨32, Tys, [], [], [], []⟩
noncomputable def folioref06_ThenCode : Go.Code := (Go.Proofs.Tryd.f22.body).getD .skip
def folioref06_ThenAnn : Go.Lf.Ann := (.seq .no (.seq .no (.seq (.join (.one .nrm ⟨[], [(4, 4, [], 0), (5, 5, [], 0)], [], [(4, 27, (.st (.pr (.int .i64) (.pr (.int .i64) (.pr (.int .i64) .unit))))), (5, 27, (.st (.pr (.int .i64) (.pr (.int .i64) (.pr (.int .i64) .unit)))))]⟩) .no) .no)))
noncomputable def folioref06_Then (a0 : (Int) × ((Int) × ((Int) × (Unit)))) (a1 : (Int) × ((Int) × ((Int) × (Unit)))) : Option ((Int) × ((Int) × ((Int) × (Unit)))) :=
 (bif (decide ((a1.2.2.1 : Int) ≠ (-(1 : Int)))) then some (((0 : Int), ((0 : Int), ((0 : Int), ()))), ((Go.Lf.bits .or .i64 (Go.Lf.bits .andNot .i64 a0.1 a1.2.1) a1.1), ((Go.Lf.bits .or .i64 (Go.Lf.bits .andNot .i64 a0.2.1 a1.1) a1.2.1), (a1.2.2.1, ()))))
   else some (((0 : Int), ((0 : Int), ((0 : Int), ()))), ((Go.Lf.bits .or .i64 (Go.Lf.bits .andNot .i64 a0.1 a1.2.1) a1.1), ((Go.Lf.bits .or .i64 (Go.Lf.bits .andNot .i64 a0.2.1 a1.1) a1.2.1), (a0.2.2.1, ()))))).bind fun r1 =>
 some r1.2
theorem folioref06_Then_eq (a0 : (Int) × ((Int) × ((Int) × (Unit)))) (a1 : (Int) × ((Int) × ((Int) × (Unit)))) : Go.Lf.fnE folioref06_ThenCtx folioref06_ThenCode folioref06_ThenAnn [.val (.st (.pr (.int .i64) (.pr (.int .i64) (.pr (.int .i64) .unit)))), .val (.st (.pr (.int .i64) (.pr (.int .i64) (.pr (.int .i64) .unit))))] [(.st (.pr (.int .i64) (.pr (.int .i64) (.pr (.int .i64) .unit))))] [.cell 4 27] (a0, a1) = folioref06_Then a0 a1 := by kernel_rfl
noncomputable def folioref06_ThenEnt : Nat × Go.Lf.Entry := (22, ⟨[.val (.st (.pr (.int .i64) (.pr (.int .i64) (.pr (.int .i64) .unit)))), .val (.st (.pr (.int .i64) (.pr (.int .i64) (.pr (.int .i64) .unit))))], [(.st (.pr (.int .i64) (.pr (.int .i64) (.pr (.int .i64) .unit))))], fun z => folioref06_Then z.1 z.2⟩)
theorem folioref06_Then_ok : Go.Lf.EntryOk Go.Proofs.Tryd.prog GG 22 folioref06_ThenEnt.2 :=
  Go.Lf.fn_ok (c := folioref06_ThenCtx) (code := folioref06_ThenCode) (an := folioref06_ThenAnn) (slots := [.cell 4 27]) (fn := Go.Proofs.Tryd.f22) (by kernel_rfl) ⟨Tys_ok, Go.Lf.FnsOk.look .nil⟩ (by kernel_rfl) (by kernel_rfl) (by kernel_rfl) (by kernel_rfl) (by kernel_rfl) (Nat.le_of_ble_eq_true rfl) (by simp [Go.Lf.Ty.top]) (by simp [Go.Lf.Ty.top]) fun z r h => (folioref06_Then_eq z.1 z.2).trans h
noncomputable def foliolaw06_sameCtx : Go.Lf.Ctx := ⟨24, Tys, [], [], [], []⟩
noncomputable def foliolaw06_sameCode : Go.Code := (Go.Proofs.Tryd.f20.body).getD .skip
def foliolaw06_sameAnn : Go.Lf.Ann := (.seq .no (.seq (.join (.one .nrm ⟨[], [], [(4, .bool)], []⟩) .no) .no))
noncomputable def foliolaw06_same (a0 : (Int) × ((Int) × ((Int) × (Unit)))) (a1 : (Int) × ((Int) × ((Int) × (Unit)))) : Option (Bool) :=
 (bif (decide ((a0.1 : Int) = a1.1)) then bif (decide ((a0.2.1 : Int) = a1.2.1)) then some (decide ((a0.2.2.1 : Int) = a1.2.2.1))
   else some false
   else some false).bind fun r1 =>
 some r1
theorem foliolaw06_same_eq (a0 : (Int) × ((Int) × ((Int) × (Unit)))) (a1 : (Int) × ((Int) × ((Int) × (Unit)))) : Go.Lf.fnE foliolaw06_sameCtx foliolaw06_sameCode foliolaw06_sameAnn [.val (.st (.pr (.int .i64) (.pr (.int .i64) (.pr (.int .i64) .unit)))), .val (.st (.pr (.int .i64) (.pr (.int .i64) (.pr (.int .i64) .unit))))] [.bool] [.tmp 4] (a0, a1) = foliolaw06_same a0 a1 := by kernel_rfl
noncomputable def foliolaw06_sameEnt : Nat × Go.Lf.Entry := (20, ⟨[.val (.st (.pr (.int .i64) (.pr (.int .i64) (.pr (.int .i64) .unit)))), .val (.st (.pr (.int .i64) (.pr (.int .i64) (.pr (.int .i64) .unit))))], [.bool], fun z => foliolaw06_same z.1 z.2⟩)
theorem foliolaw06_same_ok : Go.Lf.EntryOk Go.Proofs.Tryd.prog GG 20 foliolaw06_sameEnt.2 :=
  Go.Lf.fn_ok (c := foliolaw06_sameCtx) (code := foliolaw06_sameCode) (an := foliolaw06_sameAnn) (slots := [.tmp 4]) (fn := Go.Proofs.Tryd.f20) (by kernel_rfl) ⟨Tys_ok, Go.Lf.FnsOk.look .nil⟩ (by kernel_rfl) (by kernel_rfl) (by kernel_rfl) (by kernel_rfl) (by kernel_rfl) (Nat.le_of_ble_eq_true rfl) (by simp [Go.Lf.Ty.top]) (by simp [Go.Lf.Ty.top]) fun z r h => (foliolaw06_same_eq z.1 z.2).trans h
noncomputable def style_ApplyCtx : Go.Lf.Ctx := ⟨21, Tys, [], [], [], []⟩
noncomputable def style_ApplyCode : Go.Code := (Go.Proofs.Tryd.f24.body).getD .skip
def style_ApplyAnn : Go.Lf.Ann := (.seq .no (.seq .no (.seq (.join (.one .nrm ⟨[], [(4, 4, [], 0), (2, 2, [], 0)], [], [(4, 40, (.st (.pr (.int .i64) (.pr (.int .i64) .unit)))), (2, 40, (.st (.pr (.int .i64) (.pr (.int .i64) .unit))))]⟩) .no) .no)))
noncomputable def style_Apply (a0 : (Int) × ((Int) × (Unit))) (a1 : (Int) × ((Int) × ((Int) × (Unit)))) : Option ((Int) × ((Int) × (Unit))) :=
 (bif (decide ((a1.2.2.1 : Int) ≠ (-(1 : Int)))) then some (((0 : Int), ((0 : Int), ())), ((Go.Lf.bits .andNot .i64 (Go.Lf.bits .or .i64 a0.1 a1.1) a1.2.1), (a1.2.2.1, a0.2.2)))
   else some (((0 : Int), ((0 : Int), ())), ((Go.Lf.bits .andNot .i64 (Go.Lf.bits .or .i64 a0.1 a1.1) a1.2.1), a0.2))).bind fun r1 =>
 some r1.2
theorem style_Apply_eq (a0 : (Int) × ((Int) × (Unit))) (a1 : (Int) × ((Int) × ((Int) × (Unit)))) : Go.Lf.fnE style_ApplyCtx style_ApplyCode style_ApplyAnn [.val (.st (.pr (.int .i64) (.pr (.int .i64) .unit))), .val (.st (.pr (.int .i64) (.pr (.int .i64) (.pr (.int .i64) .unit))))] [(.st (.pr (.int .i64) (.pr (.int .i64) .unit)))] [.cell 4 40] (a0, a1) = style_Apply a0 a1 := by kernel_rfl
noncomputable def style_ApplyEnt : Nat × Go.Lf.Entry := (24, ⟨[.val (.st (.pr (.int .i64) (.pr (.int .i64) .unit))), .val (.st (.pr (.int .i64) (.pr (.int .i64) (.pr (.int .i64) .unit))))], [(.st (.pr (.int .i64) (.pr (.int .i64) .unit)))], fun z => style_Apply z.1 z.2⟩)
theorem style_Apply_ok : Go.Lf.EntryOk Go.Proofs.Tryd.prog GG 24 style_ApplyEnt.2 :=
  Go.Lf.fn_ok (c := style_ApplyCtx) (code := style_ApplyCode) (an := style_ApplyAnn) (slots := [.cell 4 40]) (fn := Go.Proofs.Tryd.f24) (by kernel_rfl) ⟨Tys_ok, Go.Lf.FnsOk.look .nil⟩ (by kernel_rfl) (by kernel_rfl) (by kernel_rfl) (by kernel_rfl) (by kernel_rfl) (Nat.le_of_ble_eq_true rfl) (by simp [Go.Lf.Ty.top]) (by simp [Go.Lf.Ty.top]) fun z r h => (style_Apply_eq z.1 z.2).trans h
noncomputable def folioref06_ApplyCtx : Go.Lf.Ctx := ⟨21, Tys, [], [], [], []⟩
noncomputable def folioref06_ApplyCode : Go.Code := (Go.Proofs.Tryd.f25.body).getD .skip
def folioref06_ApplyAnn : Go.Lf.Ann := (.seq .no (.seq .no (.seq (.join (.one .nrm ⟨[], [(4, 4, [], 0), (2, 2, [], 0)], [], [(4, 40, (.st (.pr (.int .i64) (.pr (.int .i64) .unit)))), (2, 40, (.st (.pr (.int .i64) (.pr (.int .i64) .unit))))]⟩) .no) .no)))
noncomputable def folioref06_Apply (a0 : (Int) × ((Int) × (Unit))) (a1 : (Int) × ((Int) × ((Int) × (Unit)))) : Option ((Int) × ((Int) × (Unit))) :=
 (bif (decide ((a1.2.2.1 : Int) ≠ (-(1 : Int)))) then some (((0 : Int), ((0 : Int), ())), ((Go.Lf.bits .andNot .i64 (Go.Lf.bits .or .i64 a0.1 a1.1) a1.2.1), (a1.2.2.1, a0.2.2)))
   else some (((0 : Int), ((0 : Int), ())), ((Go.Lf.bits .andNot .i64 (Go.Lf.bits .or .i64 a0.1 a1.1) a1.2.1), a0.2))).bind fun r1 =>
 some r1.2
theorem folioref06_Apply_eq (a0 : (Int) × ((Int) × (Unit))) (a1 : (Int) × ((Int) × ((Int) × (Unit)))) : Go.Lf.fnE folioref06_ApplyCtx folioref06_ApplyCode folioref06_ApplyAnn [.val (.st (.pr (.int .i64) (.pr (.int .i64) .unit))), .val (.st (.pr (.int .i64) (.pr (.int .i64) (.pr (.int .i64) .unit))))] [(.st (.pr (.int .i64) (.pr (.int .i64) .unit)))] [.cell 4 40] (a0, a1) = folioref06_Apply a0 a1 := by kernel_rfl
noncomputable def folioref06_ApplyEnt : Nat × Go.Lf.Entry := (25, ⟨[.val (.st (.pr (.int .i64) (.pr (.int .i64) .unit))), .val (.st (.pr (.int .i64) (.pr (.int .i64) (.pr (.int .i64) .unit))))], [(.st (.pr (.int .i64) (.pr (.int .i64) .unit)))], fun z => folioref06_Apply z.1 z.2⟩)
theorem folioref06_Apply_ok : Go.Lf.EntryOk Go.Proofs.Tryd.prog GG 25 folioref06_ApplyEnt.2 :=
  Go.Lf.fn_ok (c := folioref06_ApplyCtx) (code := folioref06_ApplyCode) (an := folioref06_ApplyAnn) (slots := [.cell 4 40]) (fn := Go.Proofs.Tryd.f25) (by kernel_rfl) ⟨Tys_ok, Go.Lf.FnsOk.look .nil⟩ (by kernel_rfl) (by kernel_rfl) (by kernel_rfl) (by kernel_rfl) (by kernel_rfl) (Nat.le_of_ble_eq_true rfl) (by simp [Go.Lf.Ty.top]) (by simp [Go.Lf.Ty.top]) fun z r h => (folioref06_Apply_eq z.1 z.2).trans h
noncomputable def foliolaw06_lookCtx : Go.Lf.Ctx := ⟨17, Tys, [], [], [], []⟩
noncomputable def foliolaw06_lookCode : Go.Code := (Go.Proofs.Tryd.f23.body).getD .skip
def foliolaw06_lookAnn : Go.Lf.Ann := (.seq .no (.seq (.join (.one .nrm ⟨[], [], [(4, .bool)], []⟩) .no) .no))
noncomputable def foliolaw06_look (a0 : (Int) × ((Int) × (Unit))) (a1 : (Int) × ((Int) × (Unit))) : Option (Bool) :=
 (bif (decide ((a0.1 : Int) = a1.1)) then some (decide ((a0.2.1 : Int) = a1.2.1))
   else some false).bind fun r1 =>
 some r1
theorem foliolaw06_look_eq (a0 : (Int) × ((Int) × (Unit))) (a1 : (Int) × ((Int) × (Unit))) : Go.Lf.fnE foliolaw06_lookCtx foliolaw06_lookCode foliolaw06_lookAnn [.val (.st (.pr (.int .i64) (.pr (.int .i64) .unit))), .val (.st (.pr (.int .i64) (.pr (.int .i64) .unit)))] [.bool] [.tmp 4] (a0, a1) = foliolaw06_look a0 a1 := by kernel_rfl
noncomputable def foliolaw06_lookEnt : Nat × Go.Lf.Entry := (23, ⟨[.val (.st (.pr (.int .i64) (.pr (.int .i64) .unit))), .val (.st (.pr (.int .i64) (.pr (.int .i64) .unit)))], [.bool], fun z => foliolaw06_look z.1 z.2⟩)
theorem foliolaw06_look_ok : Go.Lf.EntryOk Go.Proofs.Tryd.prog GG 23 foliolaw06_lookEnt.2 :=
  Go.Lf.fn_ok (c := foliolaw06_lookCtx) (code := foliolaw06_lookCode) (an := foliolaw06_lookAnn) (slots := [.tmp 4]) (fn := Go.Proofs.Tryd.f23) (by kernel_rfl) ⟨Tys_ok, Go.Lf.FnsOk.look .nil⟩ (by kernel_rfl) (by kernel_rfl) (by kernel_rfl) (by kernel_rfl) (by kernel_rfl) (Nat.le_of_ble_eq_true rfl) (by simp [Go.Lf.Ty.top]) (by simp [Go.Lf.Ty.top]) fun z r h => (foliolaw06_look_eq z.1 z.2).trans h
noncomputable def folioref06_BaseCtx : Go.Lf.Ctx := ⟨14, Tys, [], [0], [], [(0, (.rw 29 (.st (.pr .str (.pr .str (.pr (.st (.pr (.int .i64) (.pr (.int .i64) (.pr (.int .i64) .unit)))) .unit))))))]⟩
noncomputable def folioref06_BaseCode : Go.Code := (Go.Proofs.Tryd.f12.body).getD .skip
def folioref06_BaseAnn : Go.Lf.Ann := .no
noncomputable def folioref06_Base  : Option (List ((List (UInt8)) × ((List (UInt8)) × (((Int) × ((Int) × ((Int) × (Unit)))) × (Unit))))) :=
 some ((((98 : UInt8) :: ([] : List (UInt8))), (([] : List (UInt8)), (((1 : Int), ((0 : Int), ((-(1 : Int)), ()))), ()))) :: ((((105 : UInt8) :: ([] : List (UInt8))), (([] : List (UInt8)), (((2 : Int), ((0 : Int), ((-(1 : Int)), ()))), ()))) :: ((((117 : UInt8) :: ([] : List (UInt8))), (([] : List (UInt8)), (((4 : Int), ((0 : Int), ((-(1 : Int)), ()))), ()))) :: ((((115 : UInt8) :: ([] : List (UInt8))), (([] : List (UInt8)), (((8 : Int), ((0 : Int), ((-(1 : Int)), ()))), ()))) :: ((((109 : UInt8) :: ([] : List (UInt8))), (([] : List (UInt8)), (((16 : Int), ((0 : Int), ((-(1 : Int)), ()))), ()))) :: ((((104 : UInt8) :: ([] : List (UInt8))), (([] : List (UInt8)), (((5 : Int), ((0 : Int), ((-(1 : Int)), ()))), ()))) :: ([] : List ((List (UInt8)) × ((List (UInt8)) × (((Int) × ((Int) × ((Int) × (Unit)))) × (Unit)))))))))))
theorem folioref06_Base_eq  : Go.Lf.fnE folioref06_BaseCtx folioref06_BaseCode folioref06_BaseAnn [] [(.rw 29 (.st (.pr .str (.pr .str (.pr (.st (.pr (.int .i64) (.pr (.int .i64) (.pr (.int .i64) .unit)))) .unit)))))] [.tmp 0] () = folioref06_Base  := by kernel_rfl
noncomputable def folioref06_BaseEnt : Nat × Go.Lf.Entry := (12, ⟨[], [(.rw 29 (.st (.pr .str (.pr .str (.pr (.st (.pr (.int .i64) (.pr (.int .i64) (.pr (.int .i64) .unit)))) .unit)))))], fun _ => folioref06_Base ⟩)
theorem folioref06_Base_ok : Go.Lf.EntryOk Go.Proofs.Tryd.prog GG 12 folioref06_BaseEnt.2 :=
  Go.Lf.fn_ok (c := folioref06_BaseCtx) (code := folioref06_BaseCode) (an := folioref06_BaseAnn) (slots := [.tmp 0]) (fn := Go.Proofs.Tryd.f12) (by kernel_rfl) ⟨Tys_ok, Go.Lf.FnsOk.look .nil⟩ (by kernel_rfl) (by kernel_rfl) (by kernel_rfl) (by kernel_rfl) (by kernel_rfl) (Nat.le_of_ble_eq_true rfl) (by simp [Go.Lf.Ty.top]) (by simp [Go.Lf.Ty.top]) fun z r h => (folioref06_Base_eq ).trans h
noncomputable def style_namedCtx : Go.Lf.Ctx := ⟨28, Tys, [], [], [], []⟩
noncomputable def style_namedCode : Go.Code := (Go.Proofs.Tryd.f36.body).getD .skip
def style_namedAnn : Go.Lf.Ann := (.seq .no (.seq (.seq (.join (.one .nrm ⟨[0], [], [(11, .bool)], []⟩) .no) .no) (.seq (.seq .no (.loop ⟨[0, 13], [], [(14, (.int .i64))], []⟩ (.more (.ext 0) ⟨[], [], [], []⟩ (.one .ret ⟨[], [], [(2, .bool)], []⟩)) (.seq .no (.seq .no (.seq (.seq .no (.seq (.join (.one .nrm ⟨[0, 13, 14], [], [(26, .bool)], []⟩) .no) .no)) .no))))) .no)))
noncomputable def style_named (a0 : List (UInt8)) : Option (Bool) :=
 (bif (!(decide ((((List.length a0) : Nat) : Int) < (1 : Int)))) then some (decide ((12 : Int) < (((List.length a0) : Nat) : Int)))
   else some true).bind fun r1 =>
 bif r1 then some false
 else (Go.Lf.loopC (σ := Int) (κ := (Unit) ⊕ (Bool)) (fun z2 =>
     bif (decide (z2 < (((List.length a0) : Nat) : Int))) then (((Go.Lf.idx a0 z2)).bind fun r3 =>
       bif (!(decide ((((UInt8.toNat r3) : Nat) : Int) < (97 : Int)))) then ((Go.Lf.idx a0 z2)).bind fun r4 =>
       some (decide ((122 : Int) < (((UInt8.toNat r4) : Nat) : Int)))
       else some true).bind fun r5 =>
     bif r5 then some (.inr (.inr false))
     else some (.inl (Go.IntKind.wrap .i64 (z2 + (1 : Int))))
     else some (.inr (.inl ()))) (0 : Int) : Option ((Unit) ⊕ (Bool))).bind fun r6 =>
 Go.Lf.onSum r6 (fun a7 =>
 some true) (fun b8 =>
 some b8)
theorem style_named_eq (a0 : List (UInt8)) : Go.Lf.fnE style_namedCtx style_namedCode style_namedAnn [.val .str] [.bool] [.tmp 2] (a0) = style_named a0 := by kernel_rfl
noncomputable def style_namedEnt : Nat × Go.Lf.Entry := (36, ⟨[.val .str], [.bool], fun z => style_named z⟩)
theorem style_named_ok : Go.Lf.EntryOk Go.Proofs.Tryd.prog GG 36 style_namedEnt.2 :=
  Go.Lf.fn_ok (c := style_namedCtx) (code := style_namedCode) (an := style_namedAnn) (slots := [.tmp 2]) (fn := Go.Proofs.Tryd.f36) (by kernel_rfl) ⟨Tys_ok, Go.Lf.FnsOk.look .nil⟩ (by kernel_rfl) (by kernel_rfl) (by kernel_rfl) (by kernel_rfl) (by kernel_rfl) (Nat.le_of_ble_eq_true rfl) (by simp [Go.Lf.Ty.top]) (by simp [Go.Lf.Ty.top]) fun z r h => (style_named_eq z).trans h
noncomputable def style_FindCtx : Go.Lf.Ctx := ⟨21, Tys, [], [], [], []⟩
noncomputable def style_FindCode : Go.Code := (Go.Proofs.Tryd.f18.body).getD .skip
def style_FindAnn : Go.Lf.Ann := (.seq .no (.seq (.seq .no (.loop ⟨[1, 0, 8], [], [(9, (.int .i64))], []⟩ (.more (.ext 0) ⟨[], [], [], []⟩ (.one .ret ⟨[], [], [(4, (.int .i64)), (5, .bool)], []⟩)) .no)) .no))
noncomputable def style_Find (a0 : List ((List (UInt8)) × ((List (UInt8)) × (((Int) × ((Int) × ((Int) × (Unit)))) × (Unit))))) (a1 : List (UInt8)) : Option ((Int) × (Bool)) :=
 (Go.Lf.loopC (σ := Int) (κ := (Unit) ⊕ ((Int) × (Bool))) (fun z1 =>
     bif (decide (z1 < (((List.length a0) : Nat) : Int))) then ((Go.Lf.idx a0 z1)).bind fun r2 =>
     bif (decide ((r2.1 : List (UInt8)) = a1)) then some (.inr (.inr (z1, true)))
     else some (.inl (Go.IntKind.wrap .i64 (z1 + (1 : Int))))
     else some (.inr (.inl ()))) (0 : Int) : Option ((Unit) ⊕ ((Int) × (Bool)))).bind fun r3 =>
 Go.Lf.onSum r3 (fun a4 =>
 some ((0 : Int), false)) (fun b5 =>
 some (b5.1, b5.2))
theorem style_Find_eq (a0 : List ((List (UInt8)) × ((List (UInt8)) × (((Int) × ((Int) × ((Int) × (Unit)))) × (Unit))))) (a1 : List (UInt8)) : Go.Lf.fnE style_FindCtx style_FindCode style_FindAnn [.val (.sl (.st (.pr .str (.pr .str (.pr (.st (.pr (.int .i64) (.pr (.int .i64) (.pr (.int .i64) .unit)))) .unit))))), .val .str] [(.int .i64), .bool] [.tmp 4, .tmp 5] (a0, a1) = style_Find a0 a1 := by kernel_rfl
noncomputable def style_FindEnt : Nat × Go.Lf.Entry := (18, ⟨[.val (.sl (.st (.pr .str (.pr .str (.pr (.st (.pr (.int .i64) (.pr (.int .i64) (.pr (.int .i64) .unit)))) .unit))))), .val .str], [(.int .i64), .bool], fun z => style_Find z.1 z.2⟩)
theorem style_Find_ok : Go.Lf.EntryOk Go.Proofs.Tryd.prog GG 18 style_FindEnt.2 :=
  Go.Lf.fn_ok (c := style_FindCtx) (code := style_FindCode) (an := style_FindAnn) (slots := [.tmp 4, .tmp 5]) (fn := Go.Proofs.Tryd.f18) (by kernel_rfl) ⟨Tys_ok, Go.Lf.FnsOk.look .nil⟩ (by kernel_rfl) (by kernel_rfl) (by kernel_rfl) (by kernel_rfl) (by kernel_rfl) (Nat.le_of_ble_eq_true rfl) (by simp [Go.Lf.Ty.top]) (by simp [Go.Lf.Ty.top]) fun z r h => (style_Find_eq z.1 z.2).trans h
noncomputable def style_changeCtx : Go.Lf.Ctx := ⟨41, Tys, [], [], [], []⟩
noncomputable def style_changeCode : Go.Code := (Go.Proofs.Tryd.f37.body).getD .skip
def style_changeAnn : Go.Lf.Ann := (.seq .no (.seq (.seq (.join (.one .nrm ⟨[], [(1, 1, [], 0)], [(3, .bool)], [(1, 27, (.st (.pr (.int .i64) (.pr (.int .i64) (.pr (.int .i64) .unit)))))]⟩) .no) (.cnd .no (.seq (.join (.one .nrm ⟨[], [], [(32, .bool)], []⟩) .no) .no))) .no))
noncomputable def style_change (a0 : (Int) × ((Int) × ((Int) × (Unit)))) : Option (Int) :=
 (bif (!(decide (((Go.Lf.bits .andNot .i64 a0.1 (127 : Int)) : Int) ≠ (0 : Int)))) then bif (!(decide (((Go.Lf.bits .andNot .i64 a0.2.1 (127 : Int)) : Int) ≠ (0 : Int)))) then bif (!(decide (a0.1 < (0 : Int)))) then bif (!(decide (a0.2.1 < (0 : Int)))) then some ((decide (((Go.Lf.bits .and .i64 a0.1 a0.2.1) : Int) ≠ (0 : Int))), a0)
   else some (true, a0)
   else some (true, a0)
   else some (true, a0)
   else some (true, a0)).bind fun r1 =>
 bif r1.1 then some (62 : Int)
 else (bif (!(decide (r1.2.2.2.1 < (-(1 : Int))))) then some (decide ((15 : Int) < r1.2.2.2.1))
   else some true).bind fun r2 =>
 bif r2 then some (63 : Int)
 else some (0 : Int)
theorem style_change_eq (a0 : (Int) × ((Int) × ((Int) × (Unit)))) : Go.Lf.fnE style_changeCtx style_changeCode style_changeAnn [.val (.st (.pr (.int .i64) (.pr (.int .i64) (.pr (.int .i64) .unit))))] [(.int .i64)] [.tmp 2] (a0) = style_change a0 := by kernel_rfl
noncomputable def style_changeEnt : Nat × Go.Lf.Entry := (37, ⟨[.val (.st (.pr (.int .i64) (.pr (.int .i64) (.pr (.int .i64) .unit))))], [(.int .i64)], fun z => style_change z⟩)
theorem style_change_ok : Go.Lf.EntryOk Go.Proofs.Tryd.prog GG 37 style_changeEnt.2 :=
  Go.Lf.fn_ok (c := style_changeCtx) (code := style_changeCode) (an := style_changeAnn) (slots := [.tmp 2]) (fn := Go.Proofs.Tryd.f37) (by kernel_rfl) ⟨Tys_ok, Go.Lf.FnsOk.look .nil⟩ (by kernel_rfl) (by kernel_rfl) (by kernel_rfl) (by kernel_rfl) (by kernel_rfl) (Nat.le_of_ble_eq_true rfl) (by simp [Go.Lf.Ty.top]) (by simp [Go.Lf.Ty.top]) fun z r h => (style_change_eq z).trans h
noncomputable def style_endsCtx : Go.Lf.Ctx := ⟨33, Tys, [style_FindEnt], [], [], []⟩
noncomputable def style_endsCode : Go.Code := (Go.Proofs.Tryd.f38.body).getD .skip
def style_endsAnn : Go.Lf.Ann := (.seq .no (.seq .no (.seq .no (.seq (.seq .no (.loop ⟨[0], [], [(8, (.int .i64)), (1, (.int .i64)), (5, .bool)], []⟩ (.one (.ext 0) ⟨[], [], [(5, .bool)], []⟩) (.seq .no (.seq .no (.seq (.seq .no (.seq (.seq (.join (.one .nrm ⟨[0, 5, 8, 6], [], [(29, .bool)], []⟩) .no) .no) .no)) .no))))) .no))))
noncomputable def style_ends (a0 : List ((List (UInt8)) × ((List (UInt8)) × (((Int) × ((Int) × ((Int) × (Unit)))) × (Unit))))) (a1 : Int) : Option (Bool) :=
 (Go.Lf.loopC (σ := (Int) × ((Int) × (Bool))) (κ := Bool) (fun z1 =>
     bif (decide (z1.1 < (8 : Int))) then ((Go.Lf.idx a0 z1.2.1)).bind fun r2 =>
     ((Go.Fn.style_Find a0 r2.2.1)).bind fun r3 =>
     (((Go.Lf.idx a0 z1.2.1)).bind fun r4 =>
       bif (!(decide ((r4.2.1 : List (UInt8)) = ([] : List (UInt8))))) then some (!r3.2)
       else some true).bind fun r5 =>
     bif r5 then some (.inr true)
     else some (.inl ((Go.IntKind.wrap .i64 (z1.1 + (1 : Int))), (r3.1, z1.2.2)))
     else some (.inr z1.2.2)) ((0 : Int), (a1, false)) : Option (Bool)).bind fun r6 =>
 some r6
theorem style_ends_eq (a0 : List ((List (UInt8)) × ((List (UInt8)) × (((Int) × ((Int) × ((Int) × (Unit)))) × (Unit))))) (a1 : Int) : Go.Lf.fnE style_endsCtx style_endsCode style_endsAnn [.val (.sl (.st (.pr .str (.pr .str (.pr (.st (.pr (.int .i64) (.pr (.int .i64) (.pr (.int .i64) .unit)))) .unit))))), .val (.int .i64)] [.bool] [.tmp 4] (a0, a1) = style_ends a0 a1 := by kernel_rfl
noncomputable def style_endsEnt : Nat × Go.Lf.Entry := (38, ⟨[.val (.sl (.st (.pr .str (.pr .str (.pr (.st (.pr (.int .i64) (.pr (.int .i64) (.pr (.int .i64) .unit)))) .unit))))), .val (.int .i64)], [.bool], fun z => style_ends z.1 z.2⟩)
theorem style_ends_ok : Go.Lf.EntryOk Go.Proofs.Tryd.prog GG 38 style_endsEnt.2 :=
  Go.Lf.fn_ok (c := style_endsCtx) (code := style_endsCode) (an := style_endsAnn) (slots := [.tmp 4]) (fn := Go.Proofs.Tryd.f38) (by kernel_rfl) ⟨Tys_ok, Go.Lf.FnsOk.look (.con style_Find_ok .nil)⟩ (by kernel_rfl) (by kernel_rfl) (by kernel_rfl) (by kernel_rfl) (by kernel_rfl) (Nat.le_of_ble_eq_true rfl) (by simp [Go.Lf.Ty.top]) (by simp [Go.Lf.Ty.top]) fun z r h => (style_ends_eq z.1 z.2).trans h
noncomputable def style_CheckCtx : Go.Lf.Ctx := ⟨73, Tys, [style_FindEnt, style_namedEnt, style_changeEnt, style_endsEnt], [], [], []⟩
noncomputable def style_CheckCode : Go.Code := (Go.Proofs.Tryd.f15.body).getD .skip
def style_CheckAnn : Go.Lf.Ann := (.seq .no (.seq .no (.seq (.seq .no (.loop ⟨[0, 16, 17], [], [(18, (.int .i64))], []⟩ (.more (.ext 0) ⟨[0], [], [], []⟩ (.one .ret ⟨[], [], [(2, (.int .i64)), (3, (.int .i64))], []⟩)) (.seq .no (.seq .no (.seq (.seq .no (.seq .no (.seq (.seq (.draw 11) .no) .no))) .no))))) (.seq (.seq .no (.loop ⟨[0, 47, 48], [], [(49, (.int .i64))], []⟩ (.more (.ext 2) ⟨[], [], [], []⟩ (.one .ret ⟨[], [], [(2, (.int .i64)), (3, (.int .i64))], []⟩)) (.seq .no (.seq .no (.seq (.join (.more .nrm ⟨[0, 47, 48, 49], [], [], []⟩ (.one .ret ⟨[], [], [(2, (.int .i64)), (3, (.int .i64))], []⟩)) .no) .no))))) .no))))
noncomputable def style_Check (a0 : List ((List (UInt8)) × ((List (UInt8)) × (((Int) × ((Int) × ((Int) × (Unit)))) × (Unit))))) : Option ((Int) × (Int)) :=
 bif (decide ((64 : Int) < (((List.length a0) : Nat) : Int))) then some ((0 : Int), (2 : Int))
 else (Go.Lf.loopC (σ := Int) (κ := (Unit) ⊕ ((Int) × (Int))) (fun z1 =>
     bif (decide (z1 < (((List.length a0) : Nat) : Int))) then ((Go.Lf.idx a0 z1)).bind fun r2 =>
     ((Go.Fn.style_named r2.1)).bind fun r3 =>
     bif (!r3) then some (.inr (.inr (z1, (60 : Int))))
     else ((Go.Lf.sub a0 (0 : Int) z1)).bind fun r4 =>
     ((Go.Fn.style_Find r4 r2.1)).bind fun r5 =>
     bif r5.2 then some (.inr (.inr (z1, (61 : Int))))
     else ((Go.Fn.style_change r2.2.2.1)).bind fun r6 =>
     bif (decide ((r6 : Int) ≠ (0 : Int))) then some (.inr (.inr (z1, r6)))
     else some (.inl (Go.IntKind.wrap .i64 (z1 + (1 : Int))))
     else some (.inr (.inl ()))) (0 : Int) : Option ((Unit) ⊕ ((Int) × (Int)))).bind fun r7 =>
 Go.Lf.onSum r7 (fun a8 =>
 (Go.Lf.loopC (σ := Int) (κ := (Unit) ⊕ ((Int) × (Int))) (fun z9 =>
     bif (decide (z9 < (((List.length a0) : Nat) : Int))) then (((Go.Lf.idx a0 z9)).bind fun r10 =>
       bif (decide ((r10.2.1 : List (UInt8)) = ([] : List (UInt8)))) then some (.inl ())
       else ((Go.Fn.style_Find a0 r10.2.1)).bind fun r11 =>
       bif (!r11.2) then some (.inr (z9, (64 : Int)))
       else ((Go.Fn.style_ends a0 z9)).bind fun r12 =>
       bif (!r12) then some (.inr (z9, (65 : Int)))
       else some (.inl ()) : Option ((Unit) ⊕ ((Int) × (Int)))).bind fun r13 =>
     Go.Lf.onSum r13 (fun a14 =>
     some (.inl (Go.IntKind.wrap .i64 (z9 + (1 : Int))))) (fun b15 =>
     some (.inr (.inr (b15.1, b15.2))))
     else some (.inr (.inl ()))) (0 : Int) : Option ((Unit) ⊕ ((Int) × (Int)))).bind fun r16 =>
 Go.Lf.onSum r16 (fun a17 =>
 some ((0 : Int), (0 : Int))) (fun b18 =>
 some (b18.1, b18.2))) (fun b19 =>
 some (b19.1, b19.2))
theorem style_Check_eq (a0 : List ((List (UInt8)) × ((List (UInt8)) × (((Int) × ((Int) × ((Int) × (Unit)))) × (Unit))))) : Go.Lf.fnE style_CheckCtx style_CheckCode style_CheckAnn [.val (.sl (.st (.pr .str (.pr .str (.pr (.st (.pr (.int .i64) (.pr (.int .i64) (.pr (.int .i64) .unit)))) .unit)))))] [(.int .i64), (.int .i64)] [.tmp 2, .tmp 3] (a0) = style_Check a0 := by kernel_rfl
noncomputable def style_CheckEnt : Nat × Go.Lf.Entry := (15, ⟨[.val (.sl (.st (.pr .str (.pr .str (.pr (.st (.pr (.int .i64) (.pr (.int .i64) (.pr (.int .i64) .unit)))) .unit)))))], [(.int .i64), (.int .i64)], fun z => style_Check z⟩)
theorem style_Check_ok : Go.Lf.EntryOk Go.Proofs.Tryd.prog GG 15 style_CheckEnt.2 :=
  Go.Lf.fn_ok (c := style_CheckCtx) (code := style_CheckCode) (an := style_CheckAnn) (slots := [.tmp 2, .tmp 3]) (fn := Go.Proofs.Tryd.f15) (by kernel_rfl) ⟨Tys_ok, Go.Lf.FnsOk.look (.con style_Find_ok (.con style_named_ok (.con style_change_ok (.con style_ends_ok .nil))))⟩ (by kernel_rfl) (by kernel_rfl) (by kernel_rfl) (by kernel_rfl) (by kernel_rfl) (Nat.le_of_ble_eq_true rfl) (by simp [Go.Lf.Ty.top]) (by simp [Go.Lf.Ty.top]) fun z r h => (style_Check_eq z).trans h
noncomputable def style_plainCtx : Go.Lf.Ctx := ⟨2, Tys, [], [], [], []⟩
noncomputable def style_plainCode : Go.Code := (Go.Proofs.Tryd.f48.body).getD .skip
def style_plainAnn : Go.Lf.Ann := .no
noncomputable def style_plain  : Option ((Int) × ((Int) × ((Int) × (Unit)))) :=
 some ((0 : Int), ((0 : Int), ((-(1 : Int)), ())))
theorem style_plain_eq  : Go.Lf.fnE style_plainCtx style_plainCode style_plainAnn [] [(.st (.pr (.int .i64) (.pr (.int .i64) (.pr (.int .i64) .unit))))] [.cell 0 27] () = style_plain  := by kernel_rfl
noncomputable def style_plainEnt : Nat × Go.Lf.Entry := (48, ⟨[], [(.st (.pr (.int .i64) (.pr (.int .i64) (.pr (.int .i64) .unit))))], fun _ => style_plain ⟩)
theorem style_plain_ok : Go.Lf.EntryOk Go.Proofs.Tryd.prog GG 48 style_plainEnt.2 :=
  Go.Lf.fn_ok (c := style_plainCtx) (code := style_plainCode) (an := style_plainAnn) (slots := [.cell 0 27]) (fn := Go.Proofs.Tryd.f48) (by kernel_rfl) ⟨Tys_ok, Go.Lf.FnsOk.look .nil⟩ (by kernel_rfl) (by kernel_rfl) (by kernel_rfl) (by kernel_rfl) (by kernel_rfl) (Nat.le_of_ble_eq_true rfl) (by simp [Go.Lf.Ty.top]) (by simp [Go.Lf.Ty.top]) fun z r h => (style_plain_eq ).trans h
noncomputable def style_wholeCtx (self : (List ((List (UInt8)) × ((List (UInt8)) × (((Int) × ((Int) × ((Int) × (Unit)))) × (Unit))))) × (Int) → Option ((Int) × ((Int) × ((Int) × (Unit))))) : Go.Lf.Ctx := ⟨38, Tys, [style_FindEnt, style_ThenEnt, (42, ⟨[.val (.sl (.st (.pr .str (.pr .str (.pr (.st (.pr (.int .i64) (.pr (.int .i64) (.pr (.int .i64) .unit)))) .unit))))), .val (.int .i64)], [(.st (.pr (.int .i64) (.pr (.int .i64) (.pr (.int .i64) .unit))))], self⟩), style_plainEnt], [], [], []⟩
noncomputable def style_wholeCode : Go.Code := (Go.Proofs.Tryd.f42.body).getD .skip
def style_wholeAnn : Go.Lf.Ann := (.seq .no (.seq .no (.seq (.join (.one .nrm ⟨[1, 0], [(4, 4, [], 0), (5, 5, [], 0)], [], [(4, 27, (.st (.pr (.int .i64) (.pr (.int .i64) (.pr (.int .i64) .unit))))), (5, 27, (.st (.pr (.int .i64) (.pr (.int .i64) (.pr (.int .i64) .unit)))))]⟩) (.seq .no (.seq (.join (.one .nrm ⟨[1, 0, 6], [(4, 4, [], 0), (5, 5, [], 0)], [(27, .bool)], [(4, 27, (.st (.pr (.int .i64) (.pr (.int .i64) (.pr (.int .i64) .unit))))), (5, 27, (.st (.pr (.int .i64) (.pr (.int .i64) (.pr (.int .i64) .unit)))))]⟩) .no) .no))) (.seq (.draw 7) .no))))
noncomputable def style_wholeB (self : (List ((List (UInt8)) × ((List (UInt8)) × (((Int) × ((Int) × ((Int) × (Unit)))) × (Unit))))) × (Int) → Option ((Int) × ((Int) × ((Int) × (Unit))))) (a0 : List ((List (UInt8)) × ((List (UInt8)) × (((Int) × ((Int) × ((Int) × (Unit)))) × (Unit))))) (a1 : Int) : Option ((Int) × ((Int) × ((Int) × (Unit)))) :=
 (Go.Fn.style_plain).bind fun r1 =>
 (((Go.Lf.idx a0 a1)).bind fun r2 =>
   ((Go.Fn.style_Find a0 r2.2.1)).bind fun r3 =>
   (bif r3.2 then ((Go.Lf.idx a0 a1)).bind fun r4 =>
     some ((decide ((r4.2.1 : List (UInt8)) ≠ ([] : List (UInt8)))), (((0 : Int), ((0 : Int), ((0 : Int), ()))), r1))
     else some (false, (((0 : Int), ((0 : Int), ((0 : Int), ()))), r1))).bind fun r5 =>
   bif r5.1 then ((self (a0, r3.1))).bind fun r6 =>
   some (r5.2.1, r6)
   else some (r5.2.1, r5.2.2)).bind fun r7 =>
 ((Go.Lf.idx a0 a1)).bind fun r8 =>
 ((Go.Fn.style_Then r7.2 r8.2.2.1)).bind fun r9 =>
 some r9
theorem style_whole_eq (self : (List ((List (UInt8)) × ((List (UInt8)) × (((Int) × ((Int) × ((Int) × (Unit)))) × (Unit))))) × (Int) → Option ((Int) × ((Int) × ((Int) × (Unit))))) (a0 : List ((List (UInt8)) × ((List (UInt8)) × (((Int) × ((Int) × ((Int) × (Unit)))) × (Unit))))) (a1 : Int) : Go.Lf.fnE (style_wholeCtx self) style_wholeCode style_wholeAnn [.val (.sl (.st (.pr .str (.pr .str (.pr (.st (.pr (.int .i64) (.pr (.int .i64) (.pr (.int .i64) .unit)))) .unit))))), .val (.int .i64)] [(.st (.pr (.int .i64) (.pr (.int .i64) (.pr (.int .i64) .unit))))] [.cell 4 27] (a0, a1) = style_wholeB self a0 a1 := by kernel_rfl
noncomputable def style_wholeN : Nat → (List ((List (UInt8)) × ((List (UInt8)) × (((Int) × ((Int) × ((Int) × (Unit)))) × (Unit))))) × (Int) → Option ((Int) × ((Int) × ((Int) × (Unit))))
 | 0 => fun _ => none
 | n + 1 => fun z => style_wholeB (style_wholeN n) z.1 z.2
noncomputable def style_whole (a0 : List ((List (UInt8)) × ((List (UInt8)) × (((Int) × ((Int) × ((Int) × (Unit)))) × (Unit))))) (a1 : Int) : Option ((Int) × ((Int) × ((Int) × (Unit)))) := Go.Lf.supC fun n => style_wholeN n (a0, a1)
noncomputable def style_wholeEnt : Nat × Go.Lf.Entry := (42, ⟨[.val (.sl (.st (.pr .str (.pr .str (.pr (.st (.pr (.int .i64) (.pr (.int .i64) (.pr (.int .i64) .unit)))) .unit))))), .val (.int .i64)], [(.st (.pr (.int .i64) (.pr (.int .i64) (.pr (.int .i64) .unit))))], fun z => style_whole z.1 z.2⟩)
theorem style_whole_ok : Go.Lf.EntryOk Go.Proofs.Tryd.prog GG 42 style_wholeEnt.2 :=
  Go.Lf.rec_ok (ps := [.val (.sl (.st (.pr .str (.pr .str (.pr (.st (.pr (.int .i64) (.pr (.int .i64) (.pr (.int .i64) .unit)))) .unit))))), .val (.int .i64)]) (rs := [(.st (.pr (.int .i64) (.pr (.int .i64) (.pr (.int .i64) .unit))))]) (N := style_wholeN) Go.Proofs.Tryd.f42 (by kernel_rfl) (by kernel_rfl) (by kernel_rfl) (by simp [Go.Lf.Ty.top]) (fun _ => rfl) fun n ih => Go.Lf.fn_ok (c := style_wholeCtx (style_wholeN n)) (code := style_wholeCode) (an := style_wholeAnn) (slots := [.cell 4 27]) (fn := Go.Proofs.Tryd.f42) (by kernel_rfl) ⟨Tys_ok, Go.Lf.FnsOk.look (.con style_Find_ok (.con style_Then_ok (.cons ih (.con style_plain_ok .nil))))⟩ (by kernel_rfl) (by kernel_rfl) (by kernel_rfl) (by kernel_rfl) (by kernel_rfl) (Nat.le_of_ble_eq_true rfl) (by simp [Go.Lf.Ty.top]) (by simp [Go.Lf.Ty.top]) fun z r h => (style_whole_eq (style_wholeN n) z.1 z.2).trans h
noncomputable def style_WholeCtx : Go.Lf.Ctx := ⟨31, Tys, [style_CheckEnt, style_FindEnt, style_wholeEnt], [10], [], []⟩
noncomputable def style_WholeCode : Go.Code := (Go.Proofs.Tryd.f27.body).getD .skip
def style_WholeAnn : Go.Lf.Ann := .no
noncomputable def style_Whole (a0 : List ((List (UInt8)) × ((List (UInt8)) × (((Int) × ((Int) × ((Int) × (Unit)))) × (Unit))))) (a1 : List (UInt8)) : Option (((Int) × ((Int) × ((Int) × (Unit)))) × (Int)) :=
 ((Go.Fn.style_Check a0)).bind fun r1 =>
 bif (decide ((r1.2 : Int) ≠ (0 : Int))) then some (((0 : Int), ((0 : Int), ((0 : Int), ()))), r1.2)
 else ((Go.Fn.style_Find a0 a1)).bind fun r2 =>
 bif (!r2.2) then some (((0 : Int), ((0 : Int), ((0 : Int), ()))), (66 : Int))
 else ((Go.Fn.style_whole a0 r2.1)).bind fun r3 =>
 some (r3, (0 : Int))
theorem style_Whole_eq (a0 : List ((List (UInt8)) × ((List (UInt8)) × (((Int) × ((Int) × ((Int) × (Unit)))) × (Unit))))) (a1 : List (UInt8)) : Go.Lf.fnE style_WholeCtx style_WholeCode style_WholeAnn [.val (.sl (.st (.pr .str (.pr .str (.pr (.st (.pr (.int .i64) (.pr (.int .i64) (.pr (.int .i64) .unit)))) .unit))))), .val .str] [(.st (.pr (.int .i64) (.pr (.int .i64) (.pr (.int .i64) .unit)))), (.int .i64)] [.cell 4 27, .tmp 5] (a0, a1) = style_Whole a0 a1 := by kernel_rfl
noncomputable def style_WholeEnt : Nat × Go.Lf.Entry := (27, ⟨[.val (.sl (.st (.pr .str (.pr .str (.pr (.st (.pr (.int .i64) (.pr (.int .i64) (.pr (.int .i64) .unit)))) .unit))))), .val .str], [(.st (.pr (.int .i64) (.pr (.int .i64) (.pr (.int .i64) .unit)))), (.int .i64)], fun z => style_Whole z.1 z.2⟩)
theorem style_Whole_ok : Go.Lf.EntryOk Go.Proofs.Tryd.prog GG 27 style_WholeEnt.2 :=
  Go.Lf.fn_ok (c := style_WholeCtx) (code := style_WholeCode) (an := style_WholeAnn) (slots := [.cell 4 27, .tmp 5]) (fn := Go.Proofs.Tryd.f27) (by kernel_rfl) ⟨Tys_ok, Go.Lf.FnsOk.look (.con style_Check_ok (.con style_Find_ok (.con style_whole_ok .nil)))⟩ (by kernel_rfl) (by kernel_rfl) (by kernel_rfl) (by kernel_rfl) (by kernel_rfl) (Nat.le_of_ble_eq_true rfl) (by simp [Go.Lf.Ty.top]) (by simp [Go.Lf.Ty.top]) fun z r h => (style_Whole_eq z.1 z.2).trans h
noncomputable def style_NestCtx : Go.Lf.Ctx := ⟨52, Tys, [style_CheckEnt, style_FindEnt, style_ApplyEnt, style_wholeEnt], [14], [], []⟩
noncomputable def style_NestCode : Go.Code := (Go.Proofs.Tryd.f29.body).getD .skip
def style_NestAnn : Go.Lf.Ann := (.seq .no (.seq .no (.seq .no (.seq .no (.seq (.seq .no (.loop ⟨[0, 28, 29], [(4, 4, [], 0), (9, 9, [], 0)], [(30, (.int .i64))], [(4, 40, (.st (.pr (.int .i64) (.pr (.int .i64) .unit)))), (9, 40, (.st (.pr (.int .i64) (.pr (.int .i64) .unit))))]⟩ (.more (.ext 0) ⟨[], [(4, 4, [], 0), (9, 9, [], 0)], [], [(4, 40, (.st (.pr (.int .i64) (.pr (.int .i64) .unit)))), (9, 40, (.st (.pr (.int .i64) (.pr (.int .i64) .unit))))]⟩ (.one .ret ⟨[], [(4, 4, [], 0)], [(5, (.int .i64)), (6, (.int .i64))], [(4, 40, (.st (.pr (.int .i64) (.pr (.int .i64) .unit))))]⟩)) (.seq .no (.seq .no (.seq (.seq .no (.seq .no (.seq .no (.draw 5)))) .no))))) .no)))))
noncomputable def style_Nest (a0 : List ((List (UInt8)) × ((List (UInt8)) × (((Int) × ((Int) × ((Int) × (Unit)))) × (Unit))))) (a1 : List (List (UInt8))) : Option (((Int) × ((Int) × (Unit))) × ((Int) × (Int))) :=
 ((Go.Fn.style_Check a0)).bind fun r1 =>
 bif (decide ((r1.2 : Int) ≠ (0 : Int))) then some (((0 : Int), ((0 : Int), ())), ((0 : Int), r1.2))
 else bif (decide ((32 : Int) < (((List.length a1) : Nat) : Int))) then some (((0 : Int), ((0 : Int), ())), ((0 : Int), (2 : Int)))
 else (Go.Lf.loopC (σ := (Int) × (((Int) × ((Int) × (Unit))) × ((Int) × ((Int) × (Unit))))) (κ := (((Int) × ((Int) × (Unit))) × ((Int) × ((Int) × (Unit)))) ⊕ ((Int) × ((Int) × ((Int) × ((Int) × (Unit)))))) (fun z2 =>
     bif (decide (z2.1 < (((List.length a1) : Nat) : Int))) then ((Go.Lf.idx a1 z2.1)).bind fun r3 =>
     ((Go.Fn.style_Find a0 r3)).bind fun r4 =>
     bif (!r4.2) then some (.inr (.inr (z2.1, ((66 : Int), ((0 : Int), ((0 : Int), ()))))))
     else ((Go.Fn.style_whole a0 r4.1)).bind fun r5 =>
     ((Go.Fn.style_Apply z2.2.2 r5)).bind fun r6 =>
     some (.inl ((Go.IntKind.wrap .i64 (z2.1 + (1 : Int))), (z2.2.1, r6)))
     else some (.inr (.inl (z2.2.1, z2.2.2)))) ((0 : Int), (((0 : Int), ((0 : Int), ())), ((0 : Int), ((7 : Int), ())))) : Option ((((Int) × ((Int) × (Unit))) × ((Int) × ((Int) × (Unit)))) ⊕ ((Int) × ((Int) × ((Int) × ((Int) × (Unit))))))).bind fun r7 =>
 Go.Lf.onSum r7 (fun a8 =>
 some (a8.2, ((0 : Int), (0 : Int)))) (fun b9 =>
 some (b9.2.2, (b9.1, b9.2.1)))
theorem style_Nest_eq (a0 : List ((List (UInt8)) × ((List (UInt8)) × (((Int) × ((Int) × ((Int) × (Unit)))) × (Unit))))) (a1 : List (List (UInt8))) : Go.Lf.fnE style_NestCtx style_NestCode style_NestAnn [.val (.sl (.st (.pr .str (.pr .str (.pr (.st (.pr (.int .i64) (.pr (.int .i64) (.pr (.int .i64) .unit)))) .unit))))), .val (.sl .str)] [(.st (.pr (.int .i64) (.pr (.int .i64) .unit))), (.int .i64), (.int .i64)] [.cell 4 40, .tmp 5, .tmp 6] (a0, a1) = style_Nest a0 a1 := by kernel_rfl
noncomputable def style_NestEnt : Nat × Go.Lf.Entry := (29, ⟨[.val (.sl (.st (.pr .str (.pr .str (.pr (.st (.pr (.int .i64) (.pr (.int .i64) (.pr (.int .i64) .unit)))) .unit))))), .val (.sl .str)], [(.st (.pr (.int .i64) (.pr (.int .i64) .unit))), (.int .i64), (.int .i64)], fun z => style_Nest z.1 z.2⟩)
theorem style_Nest_ok : Go.Lf.EntryOk Go.Proofs.Tryd.prog GG 29 style_NestEnt.2 :=
  Go.Lf.fn_ok (c := style_NestCtx) (code := style_NestCode) (an := style_NestAnn) (slots := [.cell 4 40, .tmp 5, .tmp 6]) (fn := Go.Proofs.Tryd.f29) (by kernel_rfl) ⟨Tys_ok, Go.Lf.FnsOk.look (.con style_Check_ok (.con style_Find_ok (.con style_Apply_ok (.con style_whole_ok .nil))))⟩ (by kernel_rfl) (by kernel_rfl) (by kernel_rfl) (by kernel_rfl) (by kernel_rfl) (Nat.le_of_ble_eq_true rfl) (by simp [Go.Lf.Ty.top]) (by simp [Go.Lf.Ty.top]) fun z r h => (style_Nest_eq z.1 z.2).trans h
noncomputable def style_colorCtx : Go.Lf.Ctx := ⟨35, Tys, [strconv_ItoaEnt, strconv_AtoiEnt], [9], [], []⟩
noncomputable def style_colorCode : Go.Code := (Go.Proofs.Tryd.f49.body).getD .skip
def style_colorAnn : Go.Lf.Ann := (.seq .no (.seq .no (.seq .no (.seq (.join (.one .nrm ⟨[], [], [(2, (.int .i64)), (3, .bool)], []⟩) (.draw 21)) .no))))
noncomputable def style_color (a0 : List (List (UInt8))) : Option ((Int) × (Bool)) :=
 bif (decide (((((List.length a0) : Nat) : Int) : Int) = (0 : Int))) then some ((0 : Int), false)
 else ((Go.Lf.idx a0 (0 : Int))).bind fun r1 =>
 ((Go.Fn.strconv_Atoi r1)).bind fun r2 =>
 (bif (Option.isNone r2.2) then bif (decide ((0 : Int) ≤ r2.1)) then bif (decide (r2.1 ≤ (15 : Int))) then ((Go.Fn.strconv_Itoa r2.1)).bind fun r3 =>
   ((Go.Lf.idx a0 (0 : Int))).bind fun r4 =>
   some (r2.1, (decide ((r3 : List (UInt8)) = r4)))
   else some (r2.1, false)
   else some (r2.1, false)
   else some (r2.1, false)).bind fun r5 =>
 some (r5.1, r5.2)
theorem style_color_eq (a0 : List (List (UInt8))) : Go.Lf.fnE style_colorCtx style_colorCode style_colorAnn [.val (.sl .str)] [(.int .i64), .bool] [.tmp 2, .tmp 3] (a0) = style_color a0 := by kernel_rfl
noncomputable def style_colorEnt : Nat × Go.Lf.Entry := (49, ⟨[.val (.sl .str)], [(.int .i64), .bool], fun z => style_color z⟩)
theorem style_color_ok : Go.Lf.EntryOk Go.Proofs.Tryd.prog GG 49 style_colorEnt.2 :=
  Go.Lf.fn_ok (c := style_colorCtx) (code := style_colorCode) (an := style_colorAnn) (slots := [.tmp 2, .tmp 3]) (fn := Go.Proofs.Tryd.f49) (by kernel_rfl) ⟨Tys_ok, Go.Lf.FnsOk.look (.con strconv_Itoa_ok (.con strconv_Atoi_ok .nil))⟩ (by kernel_rfl) (by kernel_rfl) (by kernel_rfl) (by kernel_rfl) (by kernel_rfl) (Nat.le_of_ble_eq_true rfl) (by simp [Go.Lf.Ty.top]) (by simp [Go.Lf.Ty.top]) fun z r h => (style_color_eq z).trans h
noncomputable def style_wordsCtx : Go.Lf.Ctx := ⟨18, Tys, [], [], [], []⟩
noncomputable def style_wordsCode : Go.Code := (Go.Proofs.Tryd.f56.body).getD .skip
def style_wordsAnn : Go.Lf.Ann := .no
noncomputable def style_words  : Option (List (List (UInt8))) :=
 ((Go.Lf.made (16 : Nat) ([] : List (UInt8)) (7 : Int) (7 : Int))).bind fun r1 =>
 ((Go.Lf.chk (List.length r1) (0 : Int))).bind fun r2 =>
 ((Go.Lf.nth r1 r2)).bind fun r3 =>
 ((Go.Lf.chk (List.length (List.set r1 r2 ((98 : UInt8) :: ((111 : UInt8) :: ((108 : UInt8) :: ((100 : UInt8) :: ([] : List (UInt8)))))))) (1 : Int))).bind fun r4 =>
 ((Go.Lf.nth (List.set r1 r2 ((98 : UInt8) :: ((111 : UInt8) :: ((108 : UInt8) :: ((100 : UInt8) :: ([] : List (UInt8))))))) r4)).bind fun r5 =>
 ((Go.Lf.chk (List.length (List.set (List.set r1 r2 ((98 : UInt8) :: ((111 : UInt8) :: ((108 : UInt8) :: ((100 : UInt8) :: ([] : List (UInt8))))))) r4 ((105 : UInt8) :: ((116 : UInt8) :: ((97 : UInt8) :: ((108 : UInt8) :: ((105 : UInt8) :: ((99 : UInt8) :: ([] : List (UInt8)))))))))) (2 : Int))).bind fun r6 =>
 ((Go.Lf.nth (List.set (List.set r1 r2 ((98 : UInt8) :: ((111 : UInt8) :: ((108 : UInt8) :: ((100 : UInt8) :: ([] : List (UInt8))))))) r4 ((105 : UInt8) :: ((116 : UInt8) :: ((97 : UInt8) :: ((108 : UInt8) :: ((105 : UInt8) :: ((99 : UInt8) :: ([] : List (UInt8))))))))) r6)).bind fun r7 =>
 ((Go.Lf.chk (List.length (List.set (List.set (List.set r1 r2 ((98 : UInt8) :: ((111 : UInt8) :: ((108 : UInt8) :: ((100 : UInt8) :: ([] : List (UInt8))))))) r4 ((105 : UInt8) :: ((116 : UInt8) :: ((97 : UInt8) :: ((108 : UInt8) :: ((105 : UInt8) :: ((99 : UInt8) :: ([] : List (UInt8))))))))) r6 ((117 : UInt8) :: ((110 : UInt8) :: ((100 : UInt8) :: ((101 : UInt8) :: ((114 : UInt8) :: ([] : List (UInt8))))))))) (3 : Int))).bind fun r8 =>
 ((Go.Lf.nth (List.set (List.set (List.set r1 r2 ((98 : UInt8) :: ((111 : UInt8) :: ((108 : UInt8) :: ((100 : UInt8) :: ([] : List (UInt8))))))) r4 ((105 : UInt8) :: ((116 : UInt8) :: ((97 : UInt8) :: ((108 : UInt8) :: ((105 : UInt8) :: ((99 : UInt8) :: ([] : List (UInt8))))))))) r6 ((117 : UInt8) :: ((110 : UInt8) :: ((100 : UInt8) :: ((101 : UInt8) :: ((114 : UInt8) :: ([] : List (UInt8)))))))) r8)).bind fun r9 =>
 ((Go.Lf.chk (List.length (List.set (List.set (List.set (List.set r1 r2 ((98 : UInt8) :: ((111 : UInt8) :: ((108 : UInt8) :: ((100 : UInt8) :: ([] : List (UInt8))))))) r4 ((105 : UInt8) :: ((116 : UInt8) :: ((97 : UInt8) :: ((108 : UInt8) :: ((105 : UInt8) :: ((99 : UInt8) :: ([] : List (UInt8))))))))) r6 ((117 : UInt8) :: ((110 : UInt8) :: ((100 : UInt8) :: ((101 : UInt8) :: ((114 : UInt8) :: ([] : List (UInt8)))))))) r8 ((115 : UInt8) :: ((116 : UInt8) :: ((114 : UInt8) :: ((105 : UInt8) :: ((107 : UInt8) :: ((101 : UInt8) :: ([] : List (UInt8)))))))))) (4 : Int))).bind fun r10 =>
 ((Go.Lf.nth (List.set (List.set (List.set (List.set r1 r2 ((98 : UInt8) :: ((111 : UInt8) :: ((108 : UInt8) :: ((100 : UInt8) :: ([] : List (UInt8))))))) r4 ((105 : UInt8) :: ((116 : UInt8) :: ((97 : UInt8) :: ((108 : UInt8) :: ((105 : UInt8) :: ((99 : UInt8) :: ([] : List (UInt8))))))))) r6 ((117 : UInt8) :: ((110 : UInt8) :: ((100 : UInt8) :: ((101 : UInt8) :: ((114 : UInt8) :: ([] : List (UInt8)))))))) r8 ((115 : UInt8) :: ((116 : UInt8) :: ((114 : UInt8) :: ((105 : UInt8) :: ((107 : UInt8) :: ((101 : UInt8) :: ([] : List (UInt8))))))))) r10)).bind fun r11 =>
 ((Go.Lf.chk (List.length (List.set (List.set (List.set (List.set (List.set r1 r2 ((98 : UInt8) :: ((111 : UInt8) :: ((108 : UInt8) :: ((100 : UInt8) :: ([] : List (UInt8))))))) r4 ((105 : UInt8) :: ((116 : UInt8) :: ((97 : UInt8) :: ((108 : UInt8) :: ((105 : UInt8) :: ((99 : UInt8) :: ([] : List (UInt8))))))))) r6 ((117 : UInt8) :: ((110 : UInt8) :: ((100 : UInt8) :: ((101 : UInt8) :: ((114 : UInt8) :: ([] : List (UInt8)))))))) r8 ((115 : UInt8) :: ((116 : UInt8) :: ((114 : UInt8) :: ((105 : UInt8) :: ((107 : UInt8) :: ((101 : UInt8) :: ([] : List (UInt8))))))))) r10 ((109 : UInt8) :: ((111 : UInt8) :: ((110 : UInt8) :: ((111 : UInt8) :: ([] : List (UInt8)))))))) (5 : Int))).bind fun r12 =>
 ((Go.Lf.nth (List.set (List.set (List.set (List.set (List.set r1 r2 ((98 : UInt8) :: ((111 : UInt8) :: ((108 : UInt8) :: ((100 : UInt8) :: ([] : List (UInt8))))))) r4 ((105 : UInt8) :: ((116 : UInt8) :: ((97 : UInt8) :: ((108 : UInt8) :: ((105 : UInt8) :: ((99 : UInt8) :: ([] : List (UInt8))))))))) r6 ((117 : UInt8) :: ((110 : UInt8) :: ((100 : UInt8) :: ((101 : UInt8) :: ((114 : UInt8) :: ([] : List (UInt8)))))))) r8 ((115 : UInt8) :: ((116 : UInt8) :: ((114 : UInt8) :: ((105 : UInt8) :: ((107 : UInt8) :: ((101 : UInt8) :: ([] : List (UInt8))))))))) r10 ((109 : UInt8) :: ((111 : UInt8) :: ((110 : UInt8) :: ((111 : UInt8) :: ([] : List (UInt8))))))) r12)).bind fun r13 =>
 ((Go.Lf.chk (List.length (List.set (List.set (List.set (List.set (List.set (List.set r1 r2 ((98 : UInt8) :: ((111 : UInt8) :: ((108 : UInt8) :: ((100 : UInt8) :: ([] : List (UInt8))))))) r4 ((105 : UInt8) :: ((116 : UInt8) :: ((97 : UInt8) :: ((108 : UInt8) :: ((105 : UInt8) :: ((99 : UInt8) :: ([] : List (UInt8))))))))) r6 ((117 : UInt8) :: ((110 : UInt8) :: ((100 : UInt8) :: ((101 : UInt8) :: ((114 : UInt8) :: ([] : List (UInt8)))))))) r8 ((115 : UInt8) :: ((116 : UInt8) :: ((114 : UInt8) :: ((105 : UInt8) :: ((107 : UInt8) :: ((101 : UInt8) :: ([] : List (UInt8))))))))) r10 ((109 : UInt8) :: ((111 : UInt8) :: ((110 : UInt8) :: ((111 : UInt8) :: ([] : List (UInt8))))))) r12 ((115 : UInt8) :: ((109 : UInt8) :: ((97 : UInt8) :: ((108 : UInt8) :: ((108 : UInt8) :: ([] : List (UInt8))))))))) (6 : Int))).bind fun r14 =>
 ((Go.Lf.nth (List.set (List.set (List.set (List.set (List.set (List.set r1 r2 ((98 : UInt8) :: ((111 : UInt8) :: ((108 : UInt8) :: ((100 : UInt8) :: ([] : List (UInt8))))))) r4 ((105 : UInt8) :: ((116 : UInt8) :: ((97 : UInt8) :: ((108 : UInt8) :: ((105 : UInt8) :: ((99 : UInt8) :: ([] : List (UInt8))))))))) r6 ((117 : UInt8) :: ((110 : UInt8) :: ((100 : UInt8) :: ((101 : UInt8) :: ((114 : UInt8) :: ([] : List (UInt8)))))))) r8 ((115 : UInt8) :: ((116 : UInt8) :: ((114 : UInt8) :: ((105 : UInt8) :: ((107 : UInt8) :: ((101 : UInt8) :: ([] : List (UInt8))))))))) r10 ((109 : UInt8) :: ((111 : UInt8) :: ((110 : UInt8) :: ((111 : UInt8) :: ([] : List (UInt8))))))) r12 ((115 : UInt8) :: ((109 : UInt8) :: ((97 : UInt8) :: ((108 : UInt8) :: ((108 : UInt8) :: ([] : List (UInt8)))))))) r14)).bind fun r15 =>
 some (List.set (List.set (List.set (List.set (List.set (List.set (List.set r1 r2 ((98 : UInt8) :: ((111 : UInt8) :: ((108 : UInt8) :: ((100 : UInt8) :: ([] : List (UInt8))))))) r4 ((105 : UInt8) :: ((116 : UInt8) :: ((97 : UInt8) :: ((108 : UInt8) :: ((105 : UInt8) :: ((99 : UInt8) :: ([] : List (UInt8))))))))) r6 ((117 : UInt8) :: ((110 : UInt8) :: ((100 : UInt8) :: ((101 : UInt8) :: ((114 : UInt8) :: ([] : List (UInt8)))))))) r8 ((115 : UInt8) :: ((116 : UInt8) :: ((114 : UInt8) :: ((105 : UInt8) :: ((107 : UInt8) :: ((101 : UInt8) :: ([] : List (UInt8))))))))) r10 ((109 : UInt8) :: ((111 : UInt8) :: ((110 : UInt8) :: ((111 : UInt8) :: ([] : List (UInt8))))))) r12 ((115 : UInt8) :: ((109 : UInt8) :: ((97 : UInt8) :: ((108 : UInt8) :: ((108 : UInt8) :: ([] : List (UInt8)))))))) r14 ((114 : UInt8) :: ((101 : UInt8) :: ((118 : UInt8) :: ((101 : UInt8) :: ((114 : UInt8) :: ((115 : UInt8) :: ((101 : UInt8) :: ([] : List (UInt8))))))))))
theorem style_words_eq  : Go.Lf.fnE style_wordsCtx style_wordsCode style_wordsAnn [] [(.sl .str)] [.tmp 0] () = style_words  := by kernel_rfl
noncomputable def style_wordsEnt : Nat × Go.Lf.Entry := (56, ⟨[], [(.sl .str)], fun _ => style_words ⟩)
theorem style_words_ok : Go.Lf.EntryOk Go.Proofs.Tryd.prog GG 56 style_wordsEnt.2 :=
  Go.Lf.fn_ok (c := style_wordsCtx) (code := style_wordsCode) (an := style_wordsAnn) (slots := [.tmp 0]) (fn := Go.Proofs.Tryd.f56) (by kernel_rfl) ⟨Tys_ok, Go.Lf.FnsOk.look .nil⟩ (by kernel_rfl) (by kernel_rfl) (by kernel_rfl) (by kernel_rfl) (by kernel_rfl) (Nat.le_of_ble_eq_true rfl) (by simp [Go.Lf.Ty.top]) (by simp [Go.Lf.Ty.top]) fun z r h => (style_words_eq ).trans h
noncomputable def style_attributeCtx : Go.Lf.Ctx := ⟨58, Tys, [style_wordsEnt], [], [], []⟩
noncomputable def style_attributeCode : Go.Code := (Go.Proofs.Tryd.f50.body).getD .skip
def style_attributeAnn : Go.Lf.Ann := (.seq .no (.seq (.seq .no (.loop ⟨[1, 7, 8], [(0, 0, [.i, .r, .r, .l], 2)], [(9, (.int .i64))], [(0, 29, (.st (.pr .str (.pr .str (.pr (.st (.pr (.int .i64) (.pr (.int .i64) (.pr (.int .i64) .unit)))) .unit)))))]⟩ (.more (.ext 0) ⟨[], [(0, 0, [.i, .r, .r, .l], 2)], [], [(0, 29, (.st (.pr .str (.pr .str (.pr (.st (.pr (.int .i64) (.pr (.int .i64) (.pr (.int .i64) .unit)))) .unit)))))]⟩ (.one .ret ⟨[], [(0, 0, [.i, .r, .r, .l], 2)], [(4, .bool)], [(0, 29, (.st (.pr .str (.pr .str (.pr (.st (.pr (.int .i64) (.pr (.int .i64) (.pr (.int .i64) .unit)))) .unit)))))]⟩)) (.seq .no (.seq .no (.seq (.join (.more .nrm ⟨[1, 7, 8, 9], [(0, 0, [.i, .r, .r, .l], 2)], [], [(0, 29, (.st (.pr .str (.pr .str (.pr (.st (.pr (.int .i64) (.pr (.int .i64) (.pr (.int .i64) .unit)))) .unit)))))]⟩ (.one .ret ⟨[], [(0, 0, [.i, .r, .r, .l], 2)], [(4, .bool)], [(0, 29, (.st (.pr .str (.pr .str (.pr (.st (.pr (.int .i64) (.pr (.int .i64) (.pr (.int .i64) .unit)))) .unit)))))]⟩)) (.seq .no (.seq (.seq (.join (.one .nrm ⟨[1, 7, 8, 9, 5], [(0, 0, [.i, .r, .r, .l], 2)], [(32, .bool)], [(0, 29, (.st (.pr .str (.pr .str (.pr (.st (.pr (.int .i64) (.pr (.int .i64) (.pr (.int .i64) .unit)))) .unit)))))]⟩) (.draw 19)) .no) (.seq .no (.seq .no (.cnd (.seq (.draw 9) .no) (.seq .no (.cnd (.seq (.draw 9) .no) .no)))))))) .no))))) .no))
noncomputable def style_attribute (a0 : (List (UInt8)) × ((List (UInt8)) × (((Int) × ((Int) × ((Int) × (Unit)))) × (Unit)))) (a1 : List (UInt8)) : Option ((Bool) × ((List (UInt8)) × ((List (UInt8)) × (((Int) × ((Int) × ((Int) × (Unit)))) × (Unit))))) :=
 (Go.Fn.style_words).bind fun r1 =>
 (Go.Lf.loopC (σ := (Int) × ((List (UInt8)) × ((List (UInt8)) × (((Int) × ((Int) × ((Int) × (Unit)))) × (Unit))))) (κ := ((List (UInt8)) × ((List (UInt8)) × (((Int) × ((Int) × ((Int) × (Unit)))) × (Unit)))) ⊕ ((Bool) × ((List (UInt8)) × ((List (UInt8)) × (((Int) × ((Int) × ((Int) × (Unit)))) × (Unit)))))) (fun z2 =>
     bif (decide (z2.1 < (((List.length r1) : Nat) : Int))) then (((Go.Lf.idx r1 z2.1)).bind fun r3 =>
       (((Go.Lf.sub a1 (1 : Int) (((List.length a1) : Nat) : Int))).bind fun r4 =>
         bif (!(decide ((r4 : List (UInt8)) ≠ r3))) then ((Go.Lf.nn z2.1 (Int.fdiv (Go.Lf.bits .or .i64 z2.2.2.2.1.1 z2.2.2.2.1.2.1) ((2 : Int) ^ (Min.min (Int.toNat z2.1) (64 : Nat)))))).bind fun r5 =>
         some ((decide (((Go.Lf.bits .and .i64 r5 (1 : Int)) : Int) = (1 : Int))), z2.2)
         else some (true, z2.2)).bind fun r6 =>
       bif r6.1 then some (.inl r6.2)
       else ((Go.Lf.idx a1 (0 : Int))).bind fun r7 =>
       bif (decide (((((UInt8.toNat r7) : Nat) : Int) : Int) = (43 : Int))) then ((Go.Lf.nn z2.1 (Go.IntKind.wrap .i64 ((1 : Int) * ((2 : Int) ^ (Min.min (Int.toNat z2.1) (64 : Nat))))))).bind fun r8 =>
       some (.inr (true, (r6.2.1, (r6.2.2.1, (((Go.Lf.bits .or .i64 r6.2.2.2.1.1 r8), r6.2.2.2.1.2), r6.2.2.2.2)))))
       else bif (decide (((((UInt8.toNat r7) : Nat) : Int) : Int) = (45 : Int))) then ((Go.Lf.nn z2.1 (Go.IntKind.wrap .i64 ((1 : Int) * ((2 : Int) ^ (Min.min (Int.toNat z2.1) (64 : Nat))))))).bind fun r9 =>
       some (.inr (true, (r6.2.1, (r6.2.2.1, ((r6.2.2.2.1.1, ((Go.Lf.bits .or .i64 r6.2.2.2.1.2.1 r9), r6.2.2.2.1.2.2)), r6.2.2.2.2)))))
       else some (.inl r6.2) : Option (((List (UInt8)) × ((List (UInt8)) × (((Int) × ((Int) × ((Int) × (Unit)))) × (Unit)))) ⊕ ((Bool) × ((List (UInt8)) × ((List (UInt8)) × (((Int) × ((Int) × ((Int) × (Unit)))) × (Unit))))))).bind fun r10 =>
     Go.Lf.onSum r10 (fun a11 =>
     some (.inl ((Go.IntKind.wrap .i64 (z2.1 + (1 : Int))), a11))) (fun b12 =>
     some (.inr (.inr (b12.1, b12.2))))
     else some (.inr (.inl z2.2))) ((0 : Int), a0) : Option (((List (UInt8)) × ((List (UInt8)) × (((Int) × ((Int) × ((Int) × (Unit)))) × (Unit)))) ⊕ ((Bool) × ((List (UInt8)) × ((List (UInt8)) × (((Int) × ((Int) × ((Int) × (Unit)))) × (Unit))))))).bind fun r13 =>
 Go.Lf.onSum r13 (fun a14 =>
 some (false, a14)) (fun b15 =>
 some (b15.1, b15.2))
theorem style_attribute_eq (a0 : (List (UInt8)) × ((List (UInt8)) × (((Int) × ((Int) × ((Int) × (Unit)))) × (Unit)))) (a1 : List (UInt8)) : Go.Lf.fnE style_attributeCtx style_attributeCode style_attributeAnn [.obj 29 (.st (.pr .str (.pr .str (.pr (.st (.pr (.int .i64) (.pr (.int .i64) (.pr (.int .i64) .unit)))) .unit)))) (.st (.pr .str (.pr .str (.pr (.st (.pr (.int .i64) (.pr (.int .i64) (.pr (.int .i64) .unit)))) .unit)))) [.i, .r, .r, .l], .val .str] [.bool] [.tmp 4] (a0, a1) = style_attribute a0 a1 := by kernel_rfl
noncomputable def style_attributeEnt : Nat × Go.Lf.Entry := (50, ⟨[.obj 29 (.st (.pr .str (.pr .str (.pr (.st (.pr (.int .i64) (.pr (.int .i64) (.pr (.int .i64) .unit)))) .unit)))) (.st (.pr .str (.pr .str (.pr (.st (.pr (.int .i64) (.pr (.int .i64) (.pr (.int .i64) .unit)))) .unit)))) [.i, .r, .r, .l], .val .str], [.bool], fun z => style_attribute z.1 z.2⟩)
theorem style_attribute_ok : Go.Lf.EntryOk Go.Proofs.Tryd.prog GG 50 style_attributeEnt.2 :=
  Go.Lf.fn_ok (c := style_attributeCtx) (code := style_attributeCode) (an := style_attributeAnn) (slots := [.tmp 4]) (fn := Go.Proofs.Tryd.f50) (by kernel_rfl) ⟨Tys_ok, Go.Lf.FnsOk.look (.con style_words_ok .nil)⟩ (by kernel_rfl) (by kernel_rfl) (by kernel_rfl) (by kernel_rfl) (by kernel_rfl) (Nat.le_of_ble_eq_true rfl) (by simp [Go.Lf.Ty.top]) (by simp [Go.Lf.Ty.top]) fun z r h => (style_attribute_eq z.1 z.2).trans h
noncomputable def style_ParseCtx : Go.Lf.Ctx := ⟨88, Tys, [style_namedEnt, strings_FieldsFuncEnt, strings_CutEnt, style_plainEnt, style_colorEnt, style_attributeEnt], [], [], []⟩
noncomputable def style_ParseCode : Go.Code := (Go.Proofs.Tryd.f31.body).getD .skip
def style_ParseAnn : Go.Lf.Ann := (.seq .no (.seq .no (.seq .no (.seq .no (.seq .no (.seq (.seq (.join (.one .nrm ⟨[4, 6, 5], [(2, 2, [], 0)], [(40, .bool)], [(2, 29, (.st (.pr .str (.pr .str (.pr (.st (.pr (.int .i64) (.pr (.int .i64) (.pr (.int .i64) .unit)))) .unit)))))]⟩) .no) .no) (.seq .no (.seq (.seq .no (.loop ⟨[4], [(2, 2, [], 0), (8, 8, [], 0)], [(9, (.int .i64))], [(2, 29, (.st (.pr .str (.pr .str (.pr (.st (.pr (.int .i64) (.pr (.int .i64) (.pr (.int .i64) .unit)))) .unit))))), (8, 29, (.st (.pr .str (.pr .str (.pr (.st (.pr (.int .i64) (.pr (.int .i64) (.pr (.int .i64) .unit)))) .unit)))))]⟩ (.more (.ext 0) ⟨[], [(2, 2, [], 0), (8, 8, [], 0)], [], [(2, 29, (.st (.pr .str (.pr .str (.pr (.st (.pr (.int .i64) (.pr (.int .i64) (.pr (.int .i64) .unit)))) .unit))))), (8, 29, (.st (.pr .str (.pr .str (.pr (.st (.pr (.int .i64) (.pr (.int .i64) (.pr (.int .i64) .unit)))) .unit)))))]⟩ (.one .ret ⟨[], [(2, 2, [], 0)], [(3, (.int .i64))], [(2, 29, (.st (.pr .str (.pr .str (.pr (.st (.pr (.int .i64) (.pr (.int .i64) (.pr (.int .i64) .unit)))) .unit)))))]⟩)) (.seq .no (.seq (.join (.more .ret ⟨[], [(2, 2, [], 0)], [(3, (.int .i64))], [(2, 29, (.st (.pr .str (.pr .str (.pr (.st (.pr (.int .i64) (.pr (.int .i64) (.pr (.int .i64) .unit)))) .unit)))))]⟩ (.one .nrm ⟨[4], [(2, 2, [], 0), (8, 8, [], 0)], [(9, (.int .i64))], [(2, 29, (.st (.pr .str (.pr .str (.pr (.st (.pr (.int .i64) (.pr (.int .i64) (.pr (.int .i64) .unit)))) .unit))))), (8, 29, (.st (.pr .str (.pr .str (.pr (.st (.pr (.int .i64) (.pr (.int .i64) (.pr (.int .i64) .unit)))) .unit)))))]⟩)) (.seq (.seq .no (.cnd (.seq .no (.seq (.seq (.join (.one .nrm ⟨[4, 9, 10], [(2, 2, [], 0), (8, 8, [], 0)], [(72, .bool)], [(2, 29, (.st (.pr .str (.pr .str (.pr (.st (.pr (.int .i64) (.pr (.int .i64) (.pr (.int .i64) .unit)))) .unit))))), (8, 29, (.st (.pr .str (.pr .str (.pr (.st (.pr (.int .i64) (.pr (.int .i64) (.pr (.int .i64) .unit)))) .unit)))))]⟩) .no) .no) .no)) .no)) .no)) .no)))) .no))))))))
noncomputable def style_Parse (a0 : List (UInt8)) : Option (((List (UInt8)) × ((List (UInt8)) × (((Int) × ((Int) × ((Int) × (Unit)))) × (Unit)))) × (Int)) :=
 bif (decide ((4096 : Int) < (((List.length a0) : Nat) : Int))) then some ((([] : List (UInt8)), (([] : List (UInt8)), (((0 : Int), ((0 : Int), ((0 : Int), ()))), ()))), (2 : Int))
 else ((Go.Fn.strings_FieldsFunc a0 ())).bind fun r1 =>
 bif (decide (((((List.length r1) : Nat) : Int) : Int) = (0 : Int))) then some ((([] : List (UInt8)), (([] : List (UInt8)), (((0 : Int), ((0 : Int), ((0 : Int), ()))), ()))), (67 : Int))
 else ((Go.Lf.idx r1 (0 : Int))).bind fun r2 =>
 ((Go.Fn.strings_Cut r2 ((58 : UInt8) :: ([] : List (UInt8))))).bind fun r3 =>
 (((Go.Fn.style_named r3.1)).bind fun r4 =>
   bif (!(!r4)) then bif r3.2.2 then ((Go.Fn.style_named r3.2.1)).bind fun r5 =>
   some ((!r5), (([] : List (UInt8)), (([] : List (UInt8)), (((0 : Int), ((0 : Int), ((0 : Int), ()))), ()))))
   else some (false, (([] : List (UInt8)), (([] : List (UInt8)), (((0 : Int), ((0 : Int), ((0 : Int), ()))), ()))))
   else some (true, (([] : List (UInt8)), (([] : List (UInt8)), (((0 : Int), ((0 : Int), ((0 : Int), ()))), ()))))).bind fun r6 =>
 bif r6.1 then some ((([] : List (UInt8)), (([] : List (UInt8)), (((0 : Int), ((0 : Int), ((0 : Int), ()))), ()))), (67 : Int))
 else (Go.Fn.style_plain).bind fun r7 =>
 (Go.Lf.loopC (σ := (Int) × (((List (UInt8)) × ((List (UInt8)) × (((Int) × ((Int) × ((Int) × (Unit)))) × (Unit)))) × ((List (UInt8)) × ((List (UInt8)) × (((Int) × ((Int) × ((Int) × (Unit)))) × (Unit)))))) (κ := (((List (UInt8)) × ((List (UInt8)) × (((Int) × ((Int) × ((Int) × (Unit)))) × (Unit)))) × ((List (UInt8)) × ((List (UInt8)) × (((Int) × ((Int) × ((Int) × (Unit)))) × (Unit))))) ⊕ ((Int) × ((List (UInt8)) × ((List (UInt8)) × (((Int) × ((Int) × ((Int) × (Unit)))) × (Unit)))))) (fun z8 =>
     bif (decide (z8.1 < (((List.length r1) : Nat) : Int))) then (((Go.Lf.idx r1 z8.1)).bind fun r9 =>
       bif (decide ((r9 : List (UInt8)) = ((99 : UInt8) :: ((111 : UInt8) :: ((108 : UInt8) :: ((111 : UInt8) :: ((114 : UInt8) :: ([] : List (UInt8))))))))) then ((Go.Lf.sub r1 (Go.IntKind.wrap .i64 (z8.1 + (1 : Int))) (((List.length r1) : Nat) : Int))).bind fun r10 =>
       ((Go.Fn.style_color r10)).bind fun r11 =>
       (bif (!(!r11.2)) then some ((decide ((z8.2.2.2.2.1.2.2.1 : Int) ≠ (-(1 : Int)))), (z8.2.1, z8.2.2))
         else some (true, (z8.2.1, z8.2.2))).bind fun r12 =>
       bif r12.1 then some (.inl ((67 : Int), (([] : List (UInt8)), (([] : List (UInt8)), (((0 : Int), ((0 : Int), ((0 : Int), ()))), ())))))
       else some (.inr ((Go.IntKind.wrap .i64 (z8.1 + (1 : Int))), (r12.2.1, (r12.2.2.1, (r12.2.2.2.1, ((r12.2.2.2.2.1.1, (r12.2.2.2.2.1.2.1, (r11.1, r12.2.2.2.2.1.2.2.2))), r12.2.2.2.2.2))))))
       else ((Go.Lf.idx r1 z8.1)).bind fun r13 =>
       ((Go.Fn.style_attribute z8.2.2 r13)).bind fun r14 =>
       bif (!r14.1) then some (.inl ((67 : Int), (([] : List (UInt8)), (([] : List (UInt8)), (((0 : Int), ((0 : Int), ((0 : Int), ()))), ())))))
       else some (.inr (z8.1, (z8.2.1, r14.2))) : Option (((Int) × ((List (UInt8)) × ((List (UInt8)) × (((Int) × ((Int) × ((Int) × (Unit)))) × (Unit))))) ⊕ ((Int) × (((List (UInt8)) × ((List (UInt8)) × (((Int) × ((Int) × ((Int) × (Unit)))) × (Unit)))) × ((List (UInt8)) × ((List (UInt8)) × (((Int) × ((Int) × ((Int) × (Unit)))) × (Unit)))))))).bind fun r15 =>
     Go.Lf.onSum r15 (fun a16 =>
     some (.inr (.inr (a16.1, a16.2)))) (fun b17 =>
     some (.inl ((Go.IntKind.wrap .i64 (b17.1 + (1 : Int))), (b17.2.1, b17.2.2))))
     else some (.inr (.inl (z8.2.1, z8.2.2)))) ((1 : Int), (r6.2, (r3.1, (r3.2.1, (r7, ()))))) : Option ((((List (UInt8)) × ((List (UInt8)) × (((Int) × ((Int) × ((Int) × (Unit)))) × (Unit)))) × ((List (UInt8)) × ((List (UInt8)) × (((Int) × ((Int) × ((Int) × (Unit)))) × (Unit))))) ⊕ ((Int) × ((List (UInt8)) × ((List (UInt8)) × (((Int) × ((Int) × ((Int) × (Unit)))) × (Unit))))))).bind fun r18 =>
 Go.Lf.onSum r18 (fun a19 =>
 some (a19.2, (0 : Int))) (fun b20 =>
 some (b20.2, b20.1))
theorem style_Parse_eq (a0 : List (UInt8)) : Go.Lf.fnE style_ParseCtx style_ParseCode style_ParseAnn [.val .str] [(.st (.pr .str (.pr .str (.pr (.st (.pr (.int .i64) (.pr (.int .i64) (.pr (.int .i64) .unit)))) .unit)))), (.int .i64)] [.cell 2 29, .tmp 3] (a0) = style_Parse a0 := by kernel_rfl
noncomputable def style_ParseEnt : Nat × Go.Lf.Entry := (31, ⟨[.val .str], [(.st (.pr .str (.pr .str (.pr (.st (.pr (.int .i64) (.pr (.int .i64) (.pr (.int .i64) .unit)))) .unit)))), (.int .i64)], fun z => style_Parse z⟩)
theorem style_Parse_ok : Go.Lf.EntryOk Go.Proofs.Tryd.prog GG 31 style_ParseEnt.2 :=
  Go.Lf.fn_ok (c := style_ParseCtx) (code := style_ParseCode) (an := style_ParseAnn) (slots := [.cell 2 29, .tmp 3]) (fn := Go.Proofs.Tryd.f31) (by kernel_rfl) ⟨Tys_ok, Go.Lf.FnsOk.look (.con style_named_ok (.con strings_FieldsFunc_ok (.con strings_Cut_ok (.con style_plain_ok (.con style_color_ok (.con style_attribute_ok .nil))))))⟩ (by kernel_rfl) (by kernel_rfl) (by kernel_rfl) (by kernel_rfl) (by kernel_rfl) (Nat.le_of_ble_eq_true rfl) (by simp [Go.Lf.Ty.top]) (by simp [Go.Lf.Ty.top]) fun z r h => (style_Parse_eq z).trans h
noncomputable def style_WriteCtx : Go.Lf.Ctx := ⟨85, Tys, [style_namedEnt, style_changeEnt, style_wordsEnt, strconv_ItoaEnt], [], [], []⟩
noncomputable def style_WriteCode : Go.Code := (Go.Proofs.Tryd.f33.body).getD .skip
def style_WriteAnn : Go.Lf.Ann := (.seq .no (.seq .no (.seq .no (.seq (.seq (.join (.one .nrm ⟨[], [(1, 1, [], 0)], [(29, .bool)], [(1, 29, (.st (.pr .str (.pr .str (.pr (.st (.pr (.int .i64) (.pr (.int .i64) (.pr (.int .i64) .unit)))) .unit)))))]⟩) .no) .no) (.seq .no (.seq (.join (.one .nrm ⟨[], [(1, 1, [], 0)], [(5, .str)], [(1, 29, (.st (.pr .str (.pr .str (.pr (.st (.pr (.int .i64) (.pr (.int .i64) (.pr (.int .i64) .unit)))) .unit)))))]⟩) .no) (.seq (.seq .no (.loop ⟨[40], [(1, 1, [], 0)], [(5, .str), (41, (.int .i64))], [(1, 29, (.st (.pr .str (.pr .str (.pr (.st (.pr (.int .i64) (.pr (.int .i64) (.pr (.int .i64) .unit)))) .unit)))))]⟩ (.one (.ext 0) ⟨[], [(1, 1, [], 0)], [(5, .str)], [(1, 29, (.st (.pr .str (.pr .str (.pr (.st (.pr (.int .i64) (.pr (.int .i64) (.pr (.int .i64) .unit)))) .unit)))))]⟩) (.seq .no (.seq .no (.seq (.seq .no (.seq .no (.seq .no (.loop ⟨[7, 8, 54, 40, 41, 55], [(1, 1, [], 0)], [(56, (.int .i64)), (5, .str)], [(1, 29, (.st (.pr .str (.pr .str (.pr (.st (.pr (.int .i64) (.pr (.int .i64) (.pr (.int .i64) .unit)))) .unit)))))]⟩ (.one (.ext 2) ⟨[40, 41], [(1, 1, [], 0)], [(5, .str)], [(1, 29, (.st (.pr .str (.pr .str (.pr (.st (.pr (.int .i64) (.pr (.int .i64) (.pr (.int .i64) .unit)))) .unit)))))]⟩) (.seq .no (.seq .no (.seq (.join (.one .nrm ⟨[7, 8, 54, 40, 41, 55, 56], [(1, 1, [], 0)], [(5, .str)], [(1, 29, (.st (.pr .str (.pr .str (.pr (.st (.pr (.int .i64) (.pr (.int .i64) (.pr (.int .i64) .unit)))) .unit)))))]⟩) .no) .no))))))) .no))))) (.seq (.join (.one .nrm ⟨[], [], [(5, .str)], []⟩) .no) .no))))))))
noncomputable def style_Write (a0 : (List (UInt8)) × ((List (UInt8)) × (((Int) × ((Int) × ((Int) × (Unit)))) × (Unit)))) : Option ((List (UInt8)) × (Int)) :=
 ((Go.Fn.style_named a0.1)).bind fun r1 =>
 bif (!r1) then some (([] : List (UInt8)), (60 : Int))
 else ((Go.Fn.style_change a0.2.2.1)).bind fun r2 =>
 bif (decide ((r2 : Int) ≠ (0 : Int))) then some (([] : List (UInt8)), r2)
 else (bif (decide ((a0.2.1 : List (UInt8)) ≠ ([] : List (UInt8)))) then ((Go.Fn.style_named a0.2.1)).bind fun r3 =>
   some ((!r3), a0)
   else some (false, a0)).bind fun r4 =>
 bif r4.1 then some (([] : List (UInt8)), (64 : Int))
 else (bif (decide ((r4.2.2.1 : List (UInt8)) ≠ ([] : List (UInt8)))) then ((Go.Lf.cat ((58 : UInt8) :: ([] : List (UInt8))) r4.2.2.1)).bind fun r5 =>
   ((Go.Lf.cat r4.2.1 r5)).bind fun r6 =>
   some (r6, r4.2)
   else some (r4.2.1, r4.2)).bind fun r7 =>
 (Go.Lf.loopC (σ := (List (UInt8)) × ((Int) × ((List (UInt8)) × ((List (UInt8)) × (((Int) × ((Int) × ((Int) × (Unit)))) × (Unit)))))) (κ := (List (UInt8)) × ((List (UInt8)) × ((List (UInt8)) × (((Int) × ((Int) × ((Int) × (Unit)))) × (Unit))))) (fun z8 =>
     bif (decide (z8.2.1 < (2 : Int))) then ((Go.Lf.idx (((32 : UInt8) :: ((43 : UInt8) :: ([] : List (UInt8)))) :: (((32 : UInt8) :: ((45 : UInt8) :: ([] : List (UInt8)))) :: ([] : List (List (UInt8))))) z8.2.1)).bind fun r9 =>
     ((Go.Lf.idx (z8.2.2.2.2.1.1 :: (z8.2.2.2.2.1.2.1 :: ([] : List (Int)))) z8.2.1)).bind fun r10 =>
     (Go.Fn.style_words).bind fun r11 =>
     (Go.Lf.loopC (σ := (Int) × ((List (UInt8)) × ((List (UInt8)) × ((List (UInt8)) × (((Int) × ((Int) × ((Int) × (Unit)))) × (Unit)))))) (κ := (List (UInt8)) × ((List (UInt8)) × ((List (UInt8)) × (((Int) × ((Int) × ((Int) × (Unit)))) × (Unit))))) (fun z12 =>
         bif (decide (z12.1 < (((List.length r11) : Nat) : Int))) then (((Go.Lf.idx r11 z12.1)).bind fun r13 =>
           ((Go.Lf.nn z12.1 (Int.fdiv r10 ((2 : Int) ^ (Min.min (Int.toNat z12.1) (64 : Nat)))))).bind fun r14 =>
           bif (decide (((Go.Lf.bits .and .i64 r14 (1 : Int)) : Int) = (1 : Int))) then ((Go.Lf.cat r9 r13)).bind fun r15 =>
           ((Go.Lf.cat z12.2.1 r15)).bind fun r16 =>
           some (r16, z12.2.2)
           else some (z12.2.1, z12.2.2)).bind fun r17 =>
         some (.inl ((Go.IntKind.wrap .i64 (z12.1 + (1 : Int))), (r17.1, r17.2)))
         else some (.inr (z12.2.1, z12.2.2))) ((0 : Int), (z8.1, z8.2.2)) : Option ((List (UInt8)) × ((List (UInt8)) × ((List (UInt8)) × (((Int) × ((Int) × ((Int) × (Unit)))) × (Unit)))))).bind fun r18 =>
     some (.inl (r18.1, ((Go.IntKind.wrap .i64 (z8.2.1 + (1 : Int))), r18.2)))
     else some (.inr (z8.1, z8.2.2))) (r7.1, ((0 : Int), r7.2)) : Option ((List (UInt8)) × ((List (UInt8)) × ((List (UInt8)) × (((Int) × ((Int) × ((Int) × (Unit)))) × (Unit)))))).bind fun r19 =>
 (bif (decide ((r19.2.2.2.1.2.2.1 : Int) ≠ (-(1 : Int)))) then ((Go.Fn.strconv_Itoa r19.2.2.2.1.2.2.1)).bind fun r20 =>
   ((Go.Lf.cat ((32 : UInt8) :: ((99 : UInt8) :: ((111 : UInt8) :: ((108 : UInt8) :: ((111 : UInt8) :: ((114 : UInt8) :: ((32 : UInt8) :: ([] : List (UInt8))))))))) r20)).bind fun r21 =>
   ((Go.Lf.cat r19.1 r21)).bind fun r22 =>
   some r22
   else some r19.1).bind fun r23 =>
 some (r23, (0 : Int))
theorem style_Write_eq (a0 : (List (UInt8)) × ((List (UInt8)) × (((Int) × ((Int) × ((Int) × (Unit)))) × (Unit)))) : Go.Lf.fnE style_WriteCtx style_WriteCode style_WriteAnn [.val (.st (.pr .str (.pr .str (.pr (.st (.pr (.int .i64) (.pr (.int .i64) (.pr (.int .i64) .unit)))) .unit))))] [.str, (.int .i64)] [.tmp 2, .tmp 3] (a0) = style_Write a0 := by kernel_rfl
noncomputable def style_WriteEnt : Nat × Go.Lf.Entry := (33, ⟨[.val (.st (.pr .str (.pr .str (.pr (.st (.pr (.int .i64) (.pr (.int .i64) (.pr (.int .i64) .unit)))) .unit))))], [.str, (.int .i64)], fun z => style_Write z⟩)
theorem style_Write_ok : Go.Lf.EntryOk Go.Proofs.Tryd.prog GG 33 style_WriteEnt.2 :=
  Go.Lf.fn_ok (c := style_WriteCtx) (code := style_WriteCode) (an := style_WriteAnn) (slots := [.tmp 2, .tmp 3]) (fn := Go.Proofs.Tryd.f33) (by kernel_rfl) ⟨Tys_ok, Go.Lf.FnsOk.look (.con style_named_ok (.con style_change_ok (.con style_words_ok (.con strconv_Itoa_ok .nil))))⟩ (by kernel_rfl) (by kernel_rfl) (by kernel_rfl) (by kernel_rfl) (by kernel_rfl) (Nat.le_of_ble_eq_true rfl) (by simp [Go.Lf.Ty.top]) (by simp [Go.Lf.Ty.top]) fun z r h => (style_Write_eq z).trans h
noncomputable def style_BaseCtx : Go.Lf.Ctx := ⟨27, Tys, [], [0, 3, 12, 26], [], [(0, (.rw 29 (.st (.pr .str (.pr .str (.pr (.st (.pr (.int .i64) (.pr (.int .i64) (.pr (.int .i64) .unit)))) .unit)))))), (3, (.rw 29 (.st (.pr .str (.pr .str (.pr (.st (.pr (.int .i64) (.pr (.int .i64) (.pr (.int .i64) .unit)))) .unit)))))), (12, (.rw 29 (.st (.pr .str (.pr .str (.pr (.st (.pr (.int .i64) (.pr (.int .i64) (.pr (.int .i64) .unit)))) .unit)))))), (26, (.rw 29 (.st (.pr .str (.pr .str (.pr (.st (.pr (.int .i64) (.pr (.int .i64) (.pr (.int .i64) .unit)))) .unit))))))]⟩
noncomputable def style_BaseCode : Go.Code := (Go.Proofs.Tryd.f11.body).getD .skip
def style_BaseAnn : Go.Lf.Ann := (.seq .no (.seq .no (.seq .no (.seq .no (.seq (.seq .no (.loop ⟨[2, 1, 8], [], [(9, (.int .i64)), (3, (.rw 29 (.st (.pr .str (.pr .str (.pr (.st (.pr (.int .i64) (.pr (.int .i64) (.pr (.int .i64) .unit)))) .unit))))))], []⟩ (.one (.ext 0) ⟨[], [], [(3, (.rw 29 (.st (.pr .str (.pr .str (.pr (.st (.pr (.int .i64) (.pr (.int .i64) (.pr (.int .i64) .unit)))) .unit))))))], []⟩) (.seq .no (.seq .no (.seq (.seq .no (.draw 11)) .no))))) .no)))))
noncomputable def style_Base  : Option (List ((List (UInt8)) × ((List (UInt8)) × (((Int) × ((Int) × ((Int) × (Unit)))) × (Unit))))) :=
 (Go.Lf.loopC (σ := (Int) × (List ((List (UInt8)) × ((List (UInt8)) × (((Int) × ((Int) × ((Int) × (Unit)))) × (Unit)))))) (κ := List ((List (UInt8)) × ((List (UInt8)) × (((Int) × ((Int) × ((Int) × (Unit)))) × (Unit))))) (fun z1 =>
     bif (decide (z1.1 < (((List.length (((98 : UInt8) :: ([] : List (UInt8))) :: (((105 : UInt8) :: ([] : List (UInt8))) :: (((117 : UInt8) :: ([] : List (UInt8))) :: (((115 : UInt8) :: ([] : List (UInt8))) :: (((109 : UInt8) :: ([] : List (UInt8))) :: (((104 : UInt8) :: ([] : List (UInt8))) :: ([] : List (List (UInt8)))))))))) : Nat) : Int))) then ((Go.Lf.idx (((98 : UInt8) :: ([] : List (UInt8))) :: (((105 : UInt8) :: ([] : List (UInt8))) :: (((117 : UInt8) :: ([] : List (UInt8))) :: (((115 : UInt8) :: ([] : List (UInt8))) :: (((109 : UInt8) :: ([] : List (UInt8))) :: (((104 : UInt8) :: ([] : List (UInt8))) :: ([] : List (List (UInt8))))))))) z1.1)).bind fun r2 =>
     ((Go.Lf.idx ((1 : Int) :: ((2 : Int) :: ((4 : Int) :: ((8 : Int) :: ((16 : Int) :: ((5 : Int) :: ([] : List (Int)))))))) z1.1)).bind fun r3 =>
     ((Go.Lf.app (56 : Nat) z1.2 ((r2, (([] : List (UInt8)), ((r3, ((0 : Int), ((-(1 : Int)), ()))), ()))) :: ([] : List ((List (UInt8)) × ((List (UInt8)) × (((Int) × ((Int) × ((Int) × (Unit)))) × (Unit)))))))).bind fun r4 =>
     some (.inl ((Go.IntKind.wrap .i64 (z1.1 + (1 : Int))), r4))
     else some (.inr z1.2)) ((0 : Int), ([] : List ((List (UInt8)) × ((List (UInt8)) × (((Int) × ((Int) × ((Int) × (Unit)))) × (Unit)))))) : Option (List ((List (UInt8)) × ((List (UInt8)) × (((Int) × ((Int) × ((Int) × (Unit)))) × (Unit)))))).bind fun r5 =>
 some r5
theorem style_Base_eq  : Go.Lf.fnE style_BaseCtx style_BaseCode style_BaseAnn [] [(.rw 29 (.st (.pr .str (.pr .str (.pr (.st (.pr (.int .i64) (.pr (.int .i64) (.pr (.int .i64) .unit)))) .unit)))))] [.tmp 0] () = style_Base  := by kernel_rfl
noncomputable def style_BaseEnt : Nat × Go.Lf.Entry := (11, ⟨[], [(.rw 29 (.st (.pr .str (.pr .str (.pr (.st (.pr (.int .i64) (.pr (.int .i64) (.pr (.int .i64) .unit)))) .unit)))))], fun _ => style_Base ⟩)
theorem style_Base_ok : Go.Lf.EntryOk Go.Proofs.Tryd.prog GG 11 style_BaseEnt.2 :=
  Go.Lf.fn_ok (c := style_BaseCtx) (code := style_BaseCode) (an := style_BaseAnn) (slots := [.tmp 0]) (fn := Go.Proofs.Tryd.f11) (by kernel_rfl) ⟨Tys_ok, Go.Lf.FnsOk.look .nil⟩ (by kernel_rfl) (by kernel_rfl) (by kernel_rfl) (by kernel_rfl) (by kernel_rfl) (Nat.le_of_ble_eq_true rfl) (by simp [Go.Lf.Ty.top]) (by simp [Go.Lf.Ty.top]) fun z r h => (style_Base_eq ).trans h
noncomputable def foliolaw06_awakeCtx : Go.Lf.Ctx := ⟨64, Tys, [style_BaseEnt, folioref06_BaseEnt, foliolaw06_sameEnt, foliolaw06_lookEnt, style_WholeEnt, style_NestEnt, style_ParseEnt, style_WriteEnt], [], [], []⟩
noncomputable def foliolaw06_awakeCode : Go.Code := (Go.Proofs.Tryd.f13.body).getD .skip
def foliolaw06_awakeAnn : Go.Lf.Ann := (.seq .no (.seq .no (.seq .no (.seq .no (.seq .no (.seq (.join (.one .nrm ⟨[], [], [(0, .bool)], []⟩) .no) .no))))))
noncomputable def foliolaw06_awake  : Option (Bool) :=
 (Go.Fn.folioref06_Base).bind fun r1 =>
 ((Go.Fn.style_Whole r1 ((104 : UInt8) :: ([] : List (UInt8))))).bind fun r2 =>
 (Go.Fn.folioref06_Base).bind fun r3 =>
 ((Go.Fn.style_Nest r3 (((98 : UInt8) :: ([] : List (UInt8))) :: (((105 : UInt8) :: ([] : List (UInt8))) :: ([] : List (List (UInt8))))))).bind fun r4 =>
 ((Go.Fn.style_Parse ((32 : UInt8) :: ((119 : UInt8) :: ((97 : UInt8) :: ((114 : UInt8) :: ((110 : UInt8) :: ((58 : UInt8) :: ((98 : UInt8) :: ((32 : UInt8) :: ((32 : UInt8) :: ((99 : UInt8) :: ((111 : UInt8) :: ((108 : UInt8) :: ((111 : UInt8) :: ((114 : UInt8) :: ((32 : UInt8) :: ((49 : UInt8) :: ((32 : UInt8) :: ((43 : UInt8) :: ((117 : UInt8) :: ((110 : UInt8) :: ((100 : UInt8) :: ((101 : UInt8) :: ((114 : UInt8) :: ((32 : UInt8) :: ((45 : UInt8) :: ((98 : UInt8) :: ((111 : UInt8) :: ((108 : UInt8) :: ((100 : UInt8) :: ((32 : UInt8) :: ([] : List (UInt8)))))))))))))))))))))))))))))))))).bind fun r5 =>
 ((Go.Fn.style_Write r5.1)).bind fun r6 =>
 (bif (decide ((r2.2 : Int) = (0 : Int))) then ((Go.Fn.foliolaw06_same r2.1 ((5 : Int), ((0 : Int), ((-(1 : Int)), ()))))).bind fun r7 =>
   bif r7 then bif (decide ((r4.2.2 : Int) = (0 : Int))) then ((Go.Fn.foliolaw06_look r4.1 ((3 : Int), ((7 : Int), ())))).bind fun r8 =>
   bif r8 then bif (decide ((r5.2 : Int) = (0 : Int))) then bif (decide ((r6.2 : Int) = (0 : Int))) then bif (decide ((r6.1 : List (UInt8)) = ((119 : UInt8) :: ((97 : UInt8) :: ((114 : UInt8) :: ((110 : UInt8) :: ((58 : UInt8) :: ((98 : UInt8) :: ((32 : UInt8) :: ((43 : UInt8) :: ((117 : UInt8) :: ((110 : UInt8) :: ((100 : UInt8) :: ((101 : UInt8) :: ((114 : UInt8) :: ((32 : UInt8) :: ((45 : UInt8) :: ((98 : UInt8) :: ((111 : UInt8) :: ((108 : UInt8) :: ((100 : UInt8) :: ((32 : UInt8) :: ((99 : UInt8) :: ((111 : UInt8) :: ((108 : UInt8) :: ((111 : UInt8) :: ((114 : UInt8) :: ((32 : UInt8) :: ((49 : UInt8) :: ([] : List (UInt8))))))))))))))))))))))))))))))) then (Go.Fn.style_Base).bind fun r9 =>
   some (decide (((((List.length r9) : Nat) : Int) : Int) = (6 : Int)))
   else some false
   else some false
   else some false
   else some false
   else some false
   else some false
   else some false).bind fun r10 =>
 some r10
theorem foliolaw06_awake_eq  : Go.Lf.fnE foliolaw06_awakeCtx foliolaw06_awakeCode foliolaw06_awakeAnn [] [.bool] [.tmp 0] () = foliolaw06_awake  := by kernel_rfl
noncomputable def foliolaw06_awakeEnt : Nat × Go.Lf.Entry := (13, ⟨[], [.bool], fun _ => foliolaw06_awake ⟩)
theorem foliolaw06_awake_ok : Go.Lf.EntryOk Go.Proofs.Tryd.prog GG 13 foliolaw06_awakeEnt.2 :=
  Go.Lf.fn_ok (c := foliolaw06_awakeCtx) (code := foliolaw06_awakeCode) (an := foliolaw06_awakeAnn) (slots := [.tmp 0]) (fn := Go.Proofs.Tryd.f13) (by kernel_rfl) ⟨Tys_ok, Go.Lf.FnsOk.look (.con style_Base_ok (.con folioref06_Base_ok (.con foliolaw06_same_ok (.con foliolaw06_look_ok (.con style_Whole_ok (.con style_Nest_ok (.con style_Parse_ok (.con style_Write_ok .nil))))))))⟩ (by kernel_rfl) (by kernel_rfl) (by kernel_rfl) (by kernel_rfl) (by kernel_rfl) (Nat.le_of_ble_eq_true rfl) (by simp [Go.Lf.Ty.top]) (by simp [Go.Lf.Ty.top]) fun z r h => (foliolaw06_awake_eq ).trans h
noncomputable def foliolaw06_StyleChangesCtx : Go.Lf.Ctx := ⟨26, Tys, [foliolaw06_awakeEnt, foliolaw06_sameEnt, style_ThenEnt, folioref06_ThenEnt, foliolaw06_lookEnt, style_ApplyEnt, folioref06_ApplyEnt], [], [], []⟩
noncomputable def foliolaw06_StyleChangesCode : Go.Code := (Go.Proofs.Tryd.f4.body).getD .skip
def foliolaw06_StyleChangesAnn : Go.Lf.Ann := (.seq .no (.seq (.join (.one .nrm ⟨[], [], [(6, .bool)], []⟩) (.draw 20)) .no))
noncomputable def foliolaw06_StyleChanges (a0 : (Int) × ((Int) × ((Int) × (Unit)))) (a1 : (Int) × ((Int) × ((Int) × (Unit)))) (a2 : (Int) × ((Int) × (Unit))) : Option (Bool) :=
 (((Go.Fn.style_Then a0 a1)).bind fun r1 =>
   ((Go.Fn.folioref06_Then a0 a1)).bind fun r2 =>
   ((Go.Fn.foliolaw06_same r1 r2)).bind fun r3 =>
   bif r3 then ((Go.Fn.style_Apply a2 a0)).bind fun r4 =>
   ((Go.Fn.folioref06_Apply a2 a0)).bind fun r5 =>
   ((Go.Fn.foliolaw06_look r4 r5)).bind fun r6 =>
   bif r6 then (Go.Fn.foliolaw06_awake).bind fun r7 =>
   some r7
   else some false
   else some false).bind fun r8 =>
 some r8
theorem foliolaw06_StyleChanges_eq (a0 : (Int) × ((Int) × ((Int) × (Unit)))) (a1 : (Int) × ((Int) × ((Int) × (Unit)))) (a2 : (Int) × ((Int) × (Unit))) : Go.Lf.fnE foliolaw06_StyleChangesCtx foliolaw06_StyleChangesCode foliolaw06_StyleChangesAnn [.val (.st (.pr (.int .i64) (.pr (.int .i64) (.pr (.int .i64) .unit)))), .val (.st (.pr (.int .i64) (.pr (.int .i64) (.pr (.int .i64) .unit)))), .val (.st (.pr (.int .i64) (.pr (.int .i64) .unit)))] [.bool] [.tmp 6] (a0, a1, a2) = foliolaw06_StyleChanges a0 a1 a2 := by kernel_rfl
noncomputable def foliolaw06_StyleChangesEnt : Nat × Go.Lf.Entry := (4, ⟨[.val (.st (.pr (.int .i64) (.pr (.int .i64) (.pr (.int .i64) .unit)))), .val (.st (.pr (.int .i64) (.pr (.int .i64) (.pr (.int .i64) .unit)))), .val (.st (.pr (.int .i64) (.pr (.int .i64) .unit)))], [.bool], fun z => foliolaw06_StyleChanges z.1 z.2.1 z.2.2⟩)
theorem foliolaw06_StyleChanges_ok : Go.Lf.EntryOk Go.Proofs.Tryd.prog GG 4 foliolaw06_StyleChangesEnt.2 :=
  Go.Lf.fn_ok (c := foliolaw06_StyleChangesCtx) (code := foliolaw06_StyleChangesCode) (an := foliolaw06_StyleChangesAnn) (slots := [.tmp 6]) (fn := Go.Proofs.Tryd.f4) (by kernel_rfl) ⟨Tys_ok, Go.Lf.FnsOk.look (.con foliolaw06_awake_ok (.con foliolaw06_same_ok (.con style_Then_ok (.con folioref06_Then_ok (.con foliolaw06_look_ok (.con style_Apply_ok (.con folioref06_Apply_ok .nil)))))))⟩ (by kernel_rfl) (by kernel_rfl) (by kernel_rfl) (by kernel_rfl) (by kernel_rfl) (Nat.le_of_ble_eq_true rfl) (by simp [Go.Lf.Ty.top]) (by simp [Go.Lf.Ty.top]) fun z r h => (foliolaw06_StyleChanges_eq z.1 z.2.1 z.2.2).trans h
noncomputable def foliolaw06_apartCtx : Go.Lf.Ctx := ⟨9, Tys, [], [], [], []⟩
noncomputable def foliolaw06_apartCode : Go.Code := (Go.Proofs.Tryd.f35.body).getD .skip
def foliolaw06_apartAnn : Go.Lf.Ann := .no
noncomputable def foliolaw06_apart (a0 : (Int) × ((Int) × ((Int) × (Unit)))) : Option (Bool) :=
 some (decide (((Go.Lf.bits .and .i64 a0.1 a0.2.1) : Int) = (0 : Int)))
theorem foliolaw06_apart_eq (a0 : (Int) × ((Int) × ((Int) × (Unit)))) : Go.Lf.fnE foliolaw06_apartCtx foliolaw06_apartCode foliolaw06_apartAnn [.val (.st (.pr (.int .i64) (.pr (.int .i64) (.pr (.int .i64) .unit))))] [.bool] [.tmp 2] (a0) = foliolaw06_apart a0 := by kernel_rfl
noncomputable def foliolaw06_apartEnt : Nat × Go.Lf.Entry := (35, ⟨[.val (.st (.pr (.int .i64) (.pr (.int .i64) (.pr (.int .i64) .unit))))], [.bool], fun z => foliolaw06_apart z⟩)
theorem foliolaw06_apart_ok : Go.Lf.EntryOk Go.Proofs.Tryd.prog GG 35 foliolaw06_apartEnt.2 :=
  Go.Lf.fn_ok (c := foliolaw06_apartCtx) (code := foliolaw06_apartCode) (an := foliolaw06_apartAnn) (slots := [.tmp 2]) (fn := Go.Proofs.Tryd.f35) (by kernel_rfl) ⟨Tys_ok, Go.Lf.FnsOk.look .nil⟩ (by kernel_rfl) (by kernel_rfl) (by kernel_rfl) (by kernel_rfl) (by kernel_rfl) (Nat.le_of_ble_eq_true rfl) (by simp [Go.Lf.Ty.top]) (by simp [Go.Lf.Ty.top]) fun z r h => (foliolaw06_apart_eq z).trans h
noncomputable def foliolaw06_StyleAssociatesCtx : Go.Lf.Ctx := ⟨71, Tys, [foliolaw06_awakeEnt, foliolaw06_sameEnt, style_ThenEnt, foliolaw06_lookEnt, style_ApplyEnt, foliolaw06_apartEnt], [], [], []⟩
noncomputable def foliolaw06_StyleAssociatesCode : Go.Code := (Go.Proofs.Tryd.f7.body).getD .skip
def foliolaw06_StyleAssociatesAnn : Go.Lf.Ann := (.seq .no (.seq .no (.seq (.seq (.join (.one .nrm ⟨[], [(7, 7, [], 0), (4, 4, [], 0), (6, 6, [], 0), (5, 5, [], 0)], [(24, .bool)], [(7, 40, (.st (.pr (.int .i64) (.pr (.int .i64) .unit)))), (4, 27, (.st (.pr (.int .i64) (.pr (.int .i64) (.pr (.int .i64) .unit))))), (6, 27, (.st (.pr (.int .i64) (.pr (.int .i64) (.pr (.int .i64) .unit))))), (5, 27, (.st (.pr (.int .i64) (.pr (.int .i64) (.pr (.int .i64) .unit)))))]⟩) .no) .no) (.seq .no (.seq (.join (.one .nrm ⟨[], [], [(8, .bool)], []⟩) (.draw 46)) .no)))))
noncomputable def foliolaw06_StyleAssociates (a0 : (Int) × ((Int) × ((Int) × (Unit)))) (a1 : (Int) × ((Int) × ((Int) × (Unit)))) (a2 : (Int) × ((Int) × ((Int) × (Unit)))) (a3 : (Int) × ((Int) × (Unit))) : Option (Bool) :=
 (Go.Fn.foliolaw06_awake).bind fun r1 =>
 bif (!r1) then some false
 else (((Go.Fn.foliolaw06_apart a0)).bind fun r2 =>
   bif (!(!r2)) then ((Go.Fn.foliolaw06_apart a1)).bind fun r3 =>
   bif (!(!r3)) then ((Go.Fn.foliolaw06_apart a2)).bind fun r4 =>
   some ((!r4), (a3, (a0, (a2, a1))))
   else some (true, (a3, (a0, (a2, a1))))
   else some (true, (a3, (a0, (a2, a1))))).bind fun r5 =>
 bif r5.1 then some true
 else (((Go.Fn.style_Apply r5.2.1 r5.2.2.1)).bind fun r6 =>
   ((Go.Fn.style_Apply r6 r5.2.2.2.2)).bind fun r7 =>
   ((Go.Fn.style_Then r5.2.2.1 r5.2.2.2.2)).bind fun r8 =>
   ((Go.Fn.style_Apply r5.2.1 r8)).bind fun r9 =>
   ((Go.Fn.foliolaw06_look r7 r9)).bind fun r10 =>
   bif r10 then ((Go.Fn.style_Then r5.2.2.1 r5.2.2.2.2)).bind fun r11 =>
   ((Go.Fn.style_Then r11 r5.2.2.2.1)).bind fun r12 =>
   ((Go.Fn.style_Then r5.2.2.2.2 r5.2.2.2.1)).bind fun r13 =>
   ((Go.Fn.style_Then r5.2.2.1 r13)).bind fun r14 =>
   ((Go.Fn.foliolaw06_same r12 r14)).bind fun r15 =>
   bif r15 then ((Go.Fn.style_Then r5.2.2.1 ((0 : Int), ((0 : Int), ((-(1 : Int)), ()))))).bind fun r16 =>
   ((Go.Fn.foliolaw06_same r16 r5.2.2.1)).bind fun r17 =>
   bif r17 then ((Go.Fn.style_Then ((0 : Int), ((0 : Int), ((-(1 : Int)), ()))) r5.2.2.1)).bind fun r18 =>
   ((Go.Fn.foliolaw06_same r18 r5.2.2.1)).bind fun r19 =>
   bif r19 then ((Go.Fn.style_Apply r5.2.1 ((0 : Int), ((0 : Int), ((-(1 : Int)), ()))))).bind fun r20 =>
   ((Go.Fn.foliolaw06_look r20 r5.2.1)).bind fun r21 =>
   some r21
   else some false
   else some false
   else some false
   else some false).bind fun r22 =>
 some r22
theorem foliolaw06_StyleAssociates_eq (a0 : (Int) × ((Int) × ((Int) × (Unit)))) (a1 : (Int) × ((Int) × ((Int) × (Unit)))) (a2 : (Int) × ((Int) × ((Int) × (Unit)))) (a3 : (Int) × ((Int) × (Unit))) : Go.Lf.fnE foliolaw06_StyleAssociatesCtx foliolaw06_StyleAssociatesCode foliolaw06_StyleAssociatesAnn [.val (.st (.pr (.int .i64) (.pr (.int .i64) (.pr (.int .i64) .unit)))), .val (.st (.pr (.int .i64) (.pr (.int .i64) (.pr (.int .i64) .unit)))), .val (.st (.pr (.int .i64) (.pr (.int .i64) (.pr (.int .i64) .unit)))), .val (.st (.pr (.int .i64) (.pr (.int .i64) .unit)))] [.bool] [.tmp 8] (a0, a1, a2, a3) = foliolaw06_StyleAssociates a0 a1 a2 a3 := by kernel_rfl
noncomputable def foliolaw06_StyleAssociatesEnt : Nat × Go.Lf.Entry := (7, ⟨[.val (.st (.pr (.int .i64) (.pr (.int .i64) (.pr (.int .i64) .unit)))), .val (.st (.pr (.int .i64) (.pr (.int .i64) (.pr (.int .i64) .unit)))), .val (.st (.pr (.int .i64) (.pr (.int .i64) (.pr (.int .i64) .unit)))), .val (.st (.pr (.int .i64) (.pr (.int .i64) .unit)))], [.bool], fun z => foliolaw06_StyleAssociates z.1 z.2.1 z.2.2.1 z.2.2.2⟩)
theorem foliolaw06_StyleAssociates_ok : Go.Lf.EntryOk Go.Proofs.Tryd.prog GG 7 foliolaw06_StyleAssociatesEnt.2 :=
  Go.Lf.fn_ok (c := foliolaw06_StyleAssociatesCtx) (code := foliolaw06_StyleAssociatesCode) (an := foliolaw06_StyleAssociatesAnn) (slots := [.tmp 8]) (fn := Go.Proofs.Tryd.f7) (by kernel_rfl) ⟨Tys_ok, Go.Lf.FnsOk.look (.con foliolaw06_awake_ok (.con foliolaw06_same_ok (.con style_Then_ok (.con foliolaw06_look_ok (.con style_Apply_ok (.con foliolaw06_apart_ok .nil))))))⟩ (by kernel_rfl) (by kernel_rfl) (by kernel_rfl) (by kernel_rfl) (by kernel_rfl) (Nat.le_of_ble_eq_true rfl) (by simp [Go.Lf.Ty.top]) (by simp [Go.Lf.Ty.top]) fun z r h => (foliolaw06_StyleAssociates_eq z.1 z.2.1 z.2.2.1 z.2.2.2).trans h
end Go.Fn
open Go Go.Lf
set_option maxRecDepth 10000
namespace Go.Fn
@[reducible] def strconv_Itoa_c (_ : Nat) (a0 : Int) := Go.Fn.strconv_Itoa a0
theorem strconv_Itoa_le (n : Nat) (a0 : Int) : Go.Lf.Le (strconv_Itoa_c n a0) (strconv_Itoa a0) := Go.Lf.Le.refl
@[reducible] def strconv_Atoi_c (_ : Nat) (a0 : List UInt8) := Go.Fn.strconv_Atoi a0
theorem strconv_Atoi_le (n : Nat) (a0 : List UInt8) : Go.Lf.Le (strconv_Atoi_c n a0) (strconv_Atoi a0) := Go.Lf.Le.refl
@[reducible] def strings_Cut_c (_ : Nat) (a0 : List UInt8) (a1 : List UInt8) := Go.Fn.strings_Cut a0 a1
theorem strings_Cut_le (n : Nat) (a0 : List UInt8) (a1 : List UInt8) : Go.Lf.Le (strings_Cut_c n a0 a1) (strings_Cut a0 a1) := Go.Lf.Le.refl
@[reducible] def strings_FieldsFunc_c (_ : Nat) (a0 : List UInt8) (a1 : Unit) := Go.Fn.strings_FieldsFunc a0 a1
theorem strings_FieldsFunc_le (n : Nat) (a0 : List UInt8) (a1 : Unit) : Go.Lf.Le (strings_FieldsFunc_c n a0 a1) (strings_FieldsFunc a0 a1) := Go.Lf.Le.refl
noncomputable def style_Then_c (n : Nat) (a0 : (Int) × ((Int) × ((Int) × (Unit)))) (a1 : (Int) × ((Int) × ((Int) × (Unit)))) : Option ((Int) × ((Int) × ((Int) × (Unit)))) :=
 (bif (decide ((a1.2.2.1 : Int) = (-(1 : Int)))) then some (((0 : Int), ((0 : Int), ((0 : Int), ()))), ((Go.Lf.bits .or .i64 (Go.Lf.bits .andNot .i64 a0.1 a1.2.1) a1.1), ((Go.Lf.bits .or .i64 (Go.Lf.bits .andNot .i64 a0.2.1 a1.1) a1.2.1), (a0.2.2.1, ()))))
   else some (((0 : Int), ((0 : Int), ((0 : Int), ()))), ((Go.Lf.bits .or .i64 (Go.Lf.bits .andNot .i64 a0.1 a1.2.1) a1.1), ((Go.Lf.bits .or .i64 (Go.Lf.bits .andNot .i64 a0.2.1 a1.1) a1.2.1), (a1.2.2.1, ()))))).bind fun r1 =>
 some r1.2
theorem style_Then_le (n : Nat) (a0 : (Int) × ((Int) × ((Int) × (Unit)))) (a1 : (Int) × ((Int) × ((Int) × (Unit)))) : Go.Lf.Le (style_Then_c n a0 a1) (style_Then a0 a1) := by
  unfold style_Then_c style_Then
  repeat' first
    | with_reducible refine Go.Lf.Le.bind ?_ (fun _ => ?_)
    | with_reducible refine Go.Lf.Le.cond ?_ ?_
    | with_reducible refine Go.Lf.Le.loop (fun _ => ?_)
    | with_reducible refine Go.Lf.Le.onSum (fun _ => ?_) (fun _ => ?_)
    | with_reducible exact Go.Lf.Le.refl
noncomputable def folioref06_Then_c (n : Nat) (a0 : (Int) × ((Int) × ((Int) × (Unit)))) (a1 : (Int) × ((Int) × ((Int) × (Unit)))) : Option ((Int) × ((Int) × ((Int) × (Unit)))) :=
 (bif (decide ((a1.2.2.1 : Int) ≠ (-(1 : Int)))) then some (((0 : Int), ((0 : Int), ((0 : Int), ()))), ((Go.Lf.bits .or .i64 (Go.Lf.bits .andNot .i64 a0.1 a1.2.1) a1.1), ((Go.Lf.bits .or .i64 (Go.Lf.bits .andNot .i64 a0.2.1 a1.1) a1.2.1), (a1.2.2.1, ()))))
   else some (((0 : Int), ((0 : Int), ((0 : Int), ()))), ((Go.Lf.bits .or .i64 (Go.Lf.bits .andNot .i64 a0.1 a1.2.1) a1.1), ((Go.Lf.bits .or .i64 (Go.Lf.bits .andNot .i64 a0.2.1 a1.1) a1.2.1), (a0.2.2.1, ()))))).bind fun r1 =>
 some r1.2
theorem folioref06_Then_le (n : Nat) (a0 : (Int) × ((Int) × ((Int) × (Unit)))) (a1 : (Int) × ((Int) × ((Int) × (Unit)))) : Go.Lf.Le (folioref06_Then_c n a0 a1) (folioref06_Then a0 a1) := by
  unfold folioref06_Then_c folioref06_Then
  repeat' first
    | with_reducible refine Go.Lf.Le.bind ?_ (fun _ => ?_)
    | with_reducible refine Go.Lf.Le.cond ?_ ?_
    | with_reducible refine Go.Lf.Le.loop (fun _ => ?_)
    | with_reducible refine Go.Lf.Le.onSum (fun _ => ?_) (fun _ => ?_)
    | with_reducible exact Go.Lf.Le.refl
noncomputable def foliolaw06_same_c (n : Nat) (a0 : (Int) × ((Int) × ((Int) × (Unit)))) (a1 : (Int) × ((Int) × ((Int) × (Unit)))) : Option (Bool) :=
 (bif (decide ((a0.1 : Int) = a1.1)) then bif (decide ((a0.2.1 : Int) = a1.2.1)) then some (decide ((a0.2.2.1 : Int) = a1.2.2.1))
   else some false
   else some false).bind fun r1 =>
 some r1
theorem foliolaw06_same_le (n : Nat) (a0 : (Int) × ((Int) × ((Int) × (Unit)))) (a1 : (Int) × ((Int) × ((Int) × (Unit)))) : Go.Lf.Le (foliolaw06_same_c n a0 a1) (foliolaw06_same a0 a1) := by
  unfold foliolaw06_same_c foliolaw06_same
  repeat' first
    | with_reducible refine Go.Lf.Le.bind ?_ (fun _ => ?_)
    | with_reducible refine Go.Lf.Le.cond ?_ ?_
    | with_reducible refine Go.Lf.Le.loop (fun _ => ?_)
    | with_reducible refine Go.Lf.Le.onSum (fun _ => ?_) (fun _ => ?_)
    | with_reducible exact Go.Lf.Le.refl
noncomputable def style_Apply_c (n : Nat) (a0 : (Int) × ((Int) × (Unit))) (a1 : (Int) × ((Int) × ((Int) × (Unit)))) : Option ((Int) × ((Int) × (Unit))) :=
 (bif (decide ((a1.2.2.1 : Int) ≠ (-(1 : Int)))) then some (((0 : Int), ((0 : Int), ())), ((Go.Lf.bits .andNot .i64 (Go.Lf.bits .or .i64 a0.1 a1.1) a1.2.1), (a1.2.2.1, a0.2.2)))
   else some (((0 : Int), ((0 : Int), ())), ((Go.Lf.bits .andNot .i64 (Go.Lf.bits .or .i64 a0.1 a1.1) a1.2.1), a0.2))).bind fun r1 =>
 some r1.2
theorem style_Apply_le (n : Nat) (a0 : (Int) × ((Int) × (Unit))) (a1 : (Int) × ((Int) × ((Int) × (Unit)))) : Go.Lf.Le (style_Apply_c n a0 a1) (style_Apply a0 a1) := by
  unfold style_Apply_c style_Apply
  repeat' first
    | with_reducible refine Go.Lf.Le.bind ?_ (fun _ => ?_)
    | with_reducible refine Go.Lf.Le.cond ?_ ?_
    | with_reducible refine Go.Lf.Le.loop (fun _ => ?_)
    | with_reducible refine Go.Lf.Le.onSum (fun _ => ?_) (fun _ => ?_)
    | with_reducible exact Go.Lf.Le.refl
noncomputable def folioref06_Apply_c (n : Nat) (a0 : (Int) × ((Int) × (Unit))) (a1 : (Int) × ((Int) × ((Int) × (Unit)))) : Option ((Int) × ((Int) × (Unit))) :=
 (bif (decide ((a1.2.2.1 : Int) ≠ (-(1 : Int)))) then some (((0 : Int), ((0 : Int), ())), ((Go.Lf.bits .andNot .i64 (Go.Lf.bits .or .i64 a0.1 a1.1) a1.2.1), (a1.2.2.1, a0.2.2)))
   else some (((0 : Int), ((0 : Int), ())), ((Go.Lf.bits .andNot .i64 (Go.Lf.bits .or .i64 a0.1 a1.1) a1.2.1), a0.2))).bind fun r1 =>
 some r1.2
theorem folioref06_Apply_le (n : Nat) (a0 : (Int) × ((Int) × (Unit))) (a1 : (Int) × ((Int) × ((Int) × (Unit)))) : Go.Lf.Le (folioref06_Apply_c n a0 a1) (folioref06_Apply a0 a1) := by
  unfold folioref06_Apply_c folioref06_Apply
  repeat' first
    | with_reducible refine Go.Lf.Le.bind ?_ (fun _ => ?_)
    | with_reducible refine Go.Lf.Le.cond ?_ ?_
    | with_reducible refine Go.Lf.Le.loop (fun _ => ?_)
    | with_reducible refine Go.Lf.Le.onSum (fun _ => ?_) (fun _ => ?_)
    | with_reducible exact Go.Lf.Le.refl
noncomputable def foliolaw06_look_c (n : Nat) (a0 : (Int) × ((Int) × (Unit))) (a1 : (Int) × ((Int) × (Unit))) : Option (Bool) :=
 (bif (decide ((a0.1 : Int) = a1.1)) then some (decide ((a0.2.1 : Int) = a1.2.1))
   else some false).bind fun r1 =>
 some r1
theorem foliolaw06_look_le (n : Nat) (a0 : (Int) × ((Int) × (Unit))) (a1 : (Int) × ((Int) × (Unit))) : Go.Lf.Le (foliolaw06_look_c n a0 a1) (foliolaw06_look a0 a1) := by
  unfold foliolaw06_look_c foliolaw06_look
  repeat' first
    | with_reducible refine Go.Lf.Le.bind ?_ (fun _ => ?_)
    | with_reducible refine Go.Lf.Le.cond ?_ ?_
    | with_reducible refine Go.Lf.Le.loop (fun _ => ?_)
    | with_reducible refine Go.Lf.Le.onSum (fun _ => ?_) (fun _ => ?_)
    | with_reducible exact Go.Lf.Le.refl
noncomputable def folioref06_Base_c (n : Nat)  : Option (List ((List (UInt8)) × ((List (UInt8)) × (((Int) × ((Int) × ((Int) × (Unit)))) × (Unit))))) :=
 some ((((98 : UInt8) :: ([] : List (UInt8))), (([] : List (UInt8)), (((1 : Int), ((0 : Int), ((-(1 : Int)), ()))), ()))) :: ((((105 : UInt8) :: ([] : List (UInt8))), (([] : List (UInt8)), (((2 : Int), ((0 : Int), ((-(1 : Int)), ()))), ()))) :: ((((117 : UInt8) :: ([] : List (UInt8))), (([] : List (UInt8)), (((4 : Int), ((0 : Int), ((-(1 : Int)), ()))), ()))) :: ((((115 : UInt8) :: ([] : List (UInt8))), (([] : List (UInt8)), (((8 : Int), ((0 : Int), ((-(1 : Int)), ()))), ()))) :: ((((109 : UInt8) :: ([] : List (UInt8))), (([] : List (UInt8)), (((16 : Int), ((0 : Int), ((-(1 : Int)), ()))), ()))) :: ((((104 : UInt8) :: ([] : List (UInt8))), (([] : List (UInt8)), (((5 : Int), ((0 : Int), ((-(1 : Int)), ()))), ()))) :: ([] : List ((List (UInt8)) × ((List (UInt8)) × (((Int) × ((Int) × ((Int) × (Unit)))) × (Unit)))))))))))
theorem folioref06_Base_le (n : Nat)  : Go.Lf.Le (folioref06_Base_c n ) (folioref06_Base ) := by
  unfold folioref06_Base_c folioref06_Base
  repeat' first
    | with_reducible refine Go.Lf.Le.bind ?_ (fun _ => ?_)
    | with_reducible refine Go.Lf.Le.cond ?_ ?_
    | with_reducible refine Go.Lf.Le.loop (fun _ => ?_)
    | with_reducible refine Go.Lf.Le.onSum (fun _ => ?_) (fun _ => ?_)
    | with_reducible exact Go.Lf.Le.refl
noncomputable def style_named_c (n : Nat) (a0 : List (UInt8)) : Option (Bool) :=
 (bif (!(decide ((((List.length a0) : Nat) : Int) < (1 : Int)))) then some (decide ((12 : Int) < (((List.length a0) : Nat) : Int)))
   else some true).bind fun r1 =>
 bif r1 then some false
 else (Go.Lf.loopF n (σ := Int) (κ := (Unit) ⊕ (Bool)) (fun z2 =>
     bif (decide (z2 < (((List.length a0) : Nat) : Int))) then (((Go.Lf.idx a0 z2)).bind fun r3 =>
       bif (!(decide ((((UInt8.toNat r3) : Nat) : Int) < (97 : Int)))) then ((Go.Lf.idx a0 z2)).bind fun r4 =>
       some (decide ((122 : Int) < (((UInt8.toNat r4) : Nat) : Int)))
       else some true).bind fun r5 =>
     bif r5 then some (.inr (.inr false))
     else some (.inl (Go.IntKind.wrap .i64 (z2 + (1 : Int))))
     else some (.inr (.inl ()))) (0 : Int) : Option ((Unit) ⊕ (Bool))).bind fun r6 =>
 Go.Lf.onSum r6 (fun a7 =>
 some true) (fun b8 =>
 some b8)
theorem style_named_le (n : Nat) (a0 : List (UInt8)) : Go.Lf.Le (style_named_c n a0) (style_named a0) := by
  unfold style_named_c style_named
  repeat' first
    | with_reducible refine Go.Lf.Le.bind ?_ (fun _ => ?_)
    | with_reducible refine Go.Lf.Le.cond ?_ ?_
    | with_reducible refine Go.Lf.Le.loop (fun _ => ?_)
    | with_reducible refine Go.Lf.Le.onSum (fun _ => ?_) (fun _ => ?_)
    | with_reducible exact Go.Lf.Le.refl
noncomputable def style_Find_c (n : Nat) (a0 : List ((List (UInt8)) × ((List (UInt8)) × (((Int) × ((Int) × ((Int) × (Unit)))) × (Unit))))) (a1 : List (UInt8)) : Option ((Int) × (Bool)) :=
 (Go.Lf.loopF n (σ := Int) (κ := (Unit) ⊕ ((Int) × (Bool))) (fun z1 =>
     bif (decide (z1 < (((List.length a0) : Nat) : Int))) then ((Go.Lf.idx a0 z1)).bind fun r2 =>
     bif (decide ((r2.1 : List (UInt8)) = a1)) then some (.inr (.inr (z1, true)))
     else some (.inl (Go.IntKind.wrap .i64 (z1 + (1 : Int))))
     else some (.inr (.inl ()))) (0 : Int) : Option ((Unit) ⊕ ((Int) × (Bool)))).bind fun r3 =>
 Go.Lf.onSum r3 (fun a4 =>
 some ((0 : Int), false)) (fun b5 =>
 some (b5.1, b5.2))
theorem style_Find_le (n : Nat) (a0 : List ((List (UInt8)) × ((List (UInt8)) × (((Int) × ((Int) × ((Int) × (Unit)))) × (Unit))))) (a1 : List (UInt8)) : Go.Lf.Le (style_Find_c n a0 a1) (style_Find a0 a1) := by
  unfold style_Find_c style_Find
  repeat' first
    | with_reducible refine Go.Lf.Le.bind ?_ (fun _ => ?_)
    | with_reducible refine Go.Lf.Le.cond ?_ ?_
    | with_reducible refine Go.Lf.Le.loop (fun _ => ?_)
    | with_reducible refine Go.Lf.Le.onSum (fun _ => ?_) (fun _ => ?_)
    | with_reducible exact Go.Lf.Le.refl
noncomputable def style_change_c (n : Nat) (a0 : (Int) × ((Int) × ((Int) × (Unit)))) : Option (Int) :=
 (bif (!(decide (((Go.Lf.bits .andNot .i64 a0.1 (127 : Int)) : Int) ≠ (0 : Int)))) then bif (!(decide (((Go.Lf.bits .andNot .i64 a0.2.1 (127 : Int)) : Int) ≠ (0 : Int)))) then bif (!(decide (a0.1 < (0 : Int)))) then bif (!(decide (a0.2.1 < (0 : Int)))) then some ((decide (((Go.Lf.bits .and .i64 a0.1 a0.2.1) : Int) ≠ (0 : Int))), a0)
   else some (true, a0)
   else some (true, a0)
   else some (true, a0)
   else some (true, a0)).bind fun r1 =>
 bif r1.1 then some (62 : Int)
 else (bif (!(decide (r1.2.2.2.1 < (-(1 : Int))))) then some (decide ((15 : Int) < r1.2.2.2.1))
   else some true).bind fun r2 =>
 bif r2 then some (63 : Int)
 else some (0 : Int)
theorem style_change_le (n : Nat) (a0 : (Int) × ((Int) × ((Int) × (Unit)))) : Go.Lf.Le (style_change_c n a0) (style_change a0) := by
  unfold style_change_c style_change
  repeat' first
    | with_reducible refine Go.Lf.Le.bind ?_ (fun _ => ?_)
    | with_reducible refine Go.Lf.Le.cond ?_ ?_
    | with_reducible refine Go.Lf.Le.loop (fun _ => ?_)
    | with_reducible refine Go.Lf.Le.onSum (fun _ => ?_) (fun _ => ?_)
    | with_reducible exact Go.Lf.Le.refl
noncomputable def style_ends_c (n : Nat) (a0 : List ((List (UInt8)) × ((List (UInt8)) × (((Int) × ((Int) × ((Int) × (Unit)))) × (Unit))))) (a1 : Int) : Option (Bool) :=
 (Go.Lf.loopF n (σ := (Int) × ((Int) × (Bool))) (κ := Bool) (fun z1 =>
     bif (decide (z1.1 < (8 : Int))) then ((Go.Lf.idx a0 z1.2.1)).bind fun r2 =>
     ((Go.Fn.style_Find_c n a0 r2.2.1)).bind fun r3 =>
     (((Go.Lf.idx a0 z1.2.1)).bind fun r4 =>
       bif (!(decide ((r4.2.1 : List (UInt8)) = ([] : List (UInt8))))) then some (!r3.2)
       else some true).bind fun r5 =>
     bif r5 then some (.inr true)
     else some (.inl ((Go.IntKind.wrap .i64 (z1.1 + (1 : Int))), (r3.1, z1.2.2)))
     else some (.inr z1.2.2)) ((0 : Int), (a1, false)) : Option (Bool)).bind fun r6 =>
 some r6
theorem style_ends_le (n : Nat) (a0 : List ((List (UInt8)) × ((List (UInt8)) × (((Int) × ((Int) × ((Int) × (Unit)))) × (Unit))))) (a1 : Int) : Go.Lf.Le (style_ends_c n a0 a1) (style_ends a0 a1) := by
  unfold style_ends_c style_ends
  repeat' first
    | with_reducible exact Go.Fn.style_Find_le n _ _
    | with_reducible refine Go.Lf.Le.bind ?_ (fun _ => ?_)
    | with_reducible refine Go.Lf.Le.cond ?_ ?_
    | with_reducible refine Go.Lf.Le.loop (fun _ => ?_)
    | with_reducible refine Go.Lf.Le.onSum (fun _ => ?_) (fun _ => ?_)
    | with_reducible exact Go.Lf.Le.refl
noncomputable def style_Check_c (n : Nat) (a0 : List ((List (UInt8)) × ((List (UInt8)) × (((Int) × ((Int) × ((Int) × (Unit)))) × (Unit))))) : Option ((Int) × (Int)) :=
 bif (decide ((64 : Int) < (((List.length a0) : Nat) : Int))) then some ((0 : Int), (2 : Int))
 else (Go.Lf.loopF n (σ := Int) (κ := (Unit) ⊕ ((Int) × (Int))) (fun z1 =>
     bif (decide (z1 < (((List.length a0) : Nat) : Int))) then ((Go.Lf.idx a0 z1)).bind fun r2 =>
     ((Go.Fn.style_named_c n r2.1)).bind fun r3 =>
     bif (!r3) then some (.inr (.inr (z1, (60 : Int))))
     else ((Go.Lf.sub a0 (0 : Int) z1)).bind fun r4 =>
     ((Go.Fn.style_Find_c n r4 r2.1)).bind fun r5 =>
     bif r5.2 then some (.inr (.inr (z1, (61 : Int))))
     else ((Go.Fn.style_change_c n r2.2.2.1)).bind fun r6 =>
     bif (decide ((r6 : Int) ≠ (0 : Int))) then some (.inr (.inr (z1, r6)))
     else some (.inl (Go.IntKind.wrap .i64 (z1 + (1 : Int))))
     else some (.inr (.inl ()))) (0 : Int) : Option ((Unit) ⊕ ((Int) × (Int)))).bind fun r7 =>
 Go.Lf.onSum r7 (fun a8 =>
 (Go.Lf.loopF n (σ := Int) (κ := (Unit) ⊕ ((Int) × (Int))) (fun z9 =>
     bif (decide (z9 < (((List.length a0) : Nat) : Int))) then (((Go.Lf.idx a0 z9)).bind fun r10 =>
       bif (decide ((r10.2.1 : List (UInt8)) = ([] : List (UInt8)))) then some (.inl ())
       else ((Go.Fn.style_Find_c n a0 r10.2.1)).bind fun r11 =>
       bif (!r11.2) then some (.inr (z9, (64 : Int)))
       else ((Go.Fn.style_ends_c n a0 z9)).bind fun r12 =>
       bif (!r12) then some (.inr (z9, (65 : Int)))
       else some (.inl ()) : Option ((Unit) ⊕ ((Int) × (Int)))).bind fun r13 =>
     Go.Lf.onSum r13 (fun a14 =>
     some (.inl (Go.IntKind.wrap .i64 (z9 + (1 : Int))))) (fun b15 =>
     some (.inr (.inr (b15.1, b15.2))))
     else some (.inr (.inl ()))) (0 : Int) : Option ((Unit) ⊕ ((Int) × (Int)))).bind fun r16 =>
 Go.Lf.onSum r16 (fun a17 =>
 some ((0 : Int), (0 : Int))) (fun b18 =>
 some (b18.1, b18.2))) (fun b19 =>
 some (b19.1, b19.2))
theorem style_Check_le (n : Nat) (a0 : List ((List (UInt8)) × ((List (UInt8)) × (((Int) × ((Int) × ((Int) × (Unit)))) × (Unit))))) : Go.Lf.Le (style_Check_c n a0) (style_Check a0) := by
  unfold style_Check_c style_Check
  repeat' first
    | with_reducible exact Go.Fn.style_Find_le n _ _
    | with_reducible exact Go.Fn.style_change_le n _
    | with_reducible exact Go.Fn.style_ends_le n _ _
    | with_reducible exact Go.Fn.style_named_le n _
    | with_reducible refine Go.Lf.Le.bind ?_ (fun _ => ?_)
    | with_reducible refine Go.Lf.Le.cond ?_ ?_
    | with_reducible refine Go.Lf.Le.loop (fun _ => ?_)
    | with_reducible refine Go.Lf.Le.onSum (fun _ => ?_) (fun _ => ?_)
    | with_reducible exact Go.Lf.Le.refl
noncomputable def style_plain_c (n : Nat)  : Option ((Int) × ((Int) × ((Int) × (Unit)))) :=
 some ((0 : Int), ((0 : Int), ((-(1 : Int)), ())))
theorem style_plain_le (n : Nat)  : Go.Lf.Le (style_plain_c n ) (style_plain ) := by
  unfold style_plain_c style_plain
  repeat' first
    | with_reducible refine Go.Lf.Le.bind ?_ (fun _ => ?_)
    | with_reducible refine Go.Lf.Le.cond ?_ ?_
    | with_reducible refine Go.Lf.Le.loop (fun _ => ?_)
    | with_reducible refine Go.Lf.Le.onSum (fun _ => ?_) (fun _ => ?_)
    | with_reducible exact Go.Lf.Le.refl
noncomputable def style_wholeB_c (n : Nat) (self : (List ((List (UInt8)) × ((List (UInt8)) × (((Int) × ((Int) × ((Int) × (Unit)))) × (Unit))))) × (Int) → Option ((Int) × ((Int) × ((Int) × (Unit))))) (a0 : List ((List (UInt8)) × ((List (UInt8)) × (((Int) × ((Int) × ((Int) × (Unit)))) × (Unit))))) (a1 : Int) : Option ((Int) × ((Int) × ((Int) × (Unit)))) :=
 (Go.Fn.style_plain_c n).bind fun r1 =>
 (((Go.Lf.idx a0 a1)).bind fun r2 =>
   ((Go.Fn.style_Find_c n a0 r2.2.1)).bind fun r3 =>
   (bif r3.2 then ((Go.Lf.idx a0 a1)).bind fun r4 =>
     some ((decide ((r4.2.1 : List (UInt8)) ≠ ([] : List (UInt8)))), (((0 : Int), ((0 : Int), ((0 : Int), ()))), r1))
     else some (false, (((0 : Int), ((0 : Int), ((0 : Int), ()))), r1))).bind fun r5 =>
   bif r5.1 then ((self (a0, r3.1))).bind fun r6 =>
   some (r5.2.1, r6)
   else some (r5.2.1, r5.2.2)).bind fun r7 =>
 ((Go.Lf.idx a0 a1)).bind fun r8 =>
 ((Go.Fn.style_Then_c n r7.2 r8.2.2.1)).bind fun r9 =>
 some r9
noncomputable def style_wholeN_c (n : Nat) : Nat → (List ((List (UInt8)) × ((List (UInt8)) × (((Int) × ((Int) × ((Int) × (Unit)))) × (Unit))))) × (Int) → Option ((Int) × ((Int) × ((Int) × (Unit))))
 | 0 => fun _ => none
 | m + 1 => fun z => style_wholeB_c n (style_wholeN_c n m) z.1 z.2
noncomputable def style_whole_c (n : Nat) (a0 : List ((List (UInt8)) × ((List (UInt8)) × (((Int) × ((Int) × ((Int) × (Unit)))) × (Unit))))) (a1 : Int) : Option ((Int) × ((Int) × ((Int) × (Unit)))) := style_wholeN_c n n (a0, a1)
theorem style_wholeB_le (n : Nat) {self self' : (List ((List (UInt8)) × ((List (UInt8)) × (((Int) × ((Int) × ((Int) × (Unit)))) × (Unit))))) × (Int) → Option ((Int) × ((Int) × ((Int) × (Unit))))} (hs : ∀ z, Go.Lf.Le (self z) (self' z)) (a0 : List ((List (UInt8)) × ((List (UInt8)) × (((Int) × ((Int) × ((Int) × (Unit)))) × (Unit))))) (a1 : Int) : Go.Lf.Le (style_wholeB_c n self a0 a1) (style_wholeB self' a0 a1) := by
  unfold style_wholeB_c style_wholeB
  repeat' first
    | with_reducible exact Go.Fn.style_Find_le n _ _
    | with_reducible exact Go.Fn.style_Then_le n _ _
    | with_reducible exact Go.Fn.style_plain_le n
    | exact hs _
    | with_reducible refine Go.Lf.Le.bind ?_ (fun _ => ?_)
    | with_reducible refine Go.Lf.Le.cond ?_ ?_
    | with_reducible refine Go.Lf.Le.loop (fun _ => ?_)
    | with_reducible refine Go.Lf.Le.onSum (fun _ => ?_) (fun _ => ?_)
    | with_reducible exact Go.Lf.Le.refl
theorem style_wholeB_mono {self self' : (List ((List (UInt8)) × ((List (UInt8)) × (((Int) × ((Int) × ((Int) × (Unit)))) × (Unit))))) × (Int) → Option ((Int) × ((Int) × ((Int) × (Unit))))} (hs : ∀ z, Go.Lf.Le (self z) (self' z)) (a0 : List ((List (UInt8)) × ((List (UInt8)) × (((Int) × ((Int) × ((Int) × (Unit)))) × (Unit))))) (a1 : Int) : Go.Lf.Le (style_wholeB self a0 a1) (style_wholeB self' a0 a1) := by
  unfold style_wholeB
  repeat' first
    | exact hs _
    | with_reducible refine Go.Lf.Le.bind ?_ (fun _ => ?_)
    | with_reducible refine Go.Lf.Le.cond ?_ ?_
    | with_reducible refine Go.Lf.Le.loopC (fun _ => ?_)
    | with_reducible refine Go.Lf.Le.onSum (fun _ => ?_) (fun _ => ?_)
    | with_reducible exact Go.Lf.Le.refl
theorem style_wholeN_mono : ∀ (n : Nat) z, Go.Lf.Le (style_wholeN n z) (style_wholeN (n + 1) z)
 | 0, _ => fun _ h => (by cases h)
 | n + 1, z => style_wholeB_mono (style_wholeN_mono n) z.1 z.2
theorem style_wholeN_le (n : Nat) : ∀ (m : Nat) z, Go.Lf.Le (style_wholeN_c n m z) (style_wholeN m z)
 | 0, _ => fun _ h => (by cases h)
 | m + 1, z => style_wholeB_le n (style_wholeN_le n m) z.1 z.2
theorem style_whole_le (n : Nat) (a0 : List ((List (UInt8)) × ((List (UInt8)) × (((Int) × ((Int) × ((Int) × (Unit)))) × (Unit))))) (a1 : Int) : Go.Lf.Le (style_whole_c n a0 a1) (style_whole a0 a1) := (style_wholeN_le n n (a0, a1)).trans (Go.Lf.sup_le (g := fun n => style_wholeN n (a0, a1)) (fun m => style_wholeN_mono m _) n)
noncomputable def style_Whole_c (n : Nat) (a0 : List ((List (UInt8)) × ((List (UInt8)) × (((Int) × ((Int) × ((Int) × (Unit)))) × (Unit))))) (a1 : List (UInt8)) : Option (((Int) × ((Int) × ((Int) × (Unit)))) × (Int)) :=
 ((Go.Fn.style_Check_c n a0)).bind fun r1 =>
 bif (decide ((r1.2 : Int) ≠ (0 : Int))) then some (((0 : Int), ((0 : Int), ((0 : Int), ()))), r1.2)
 else ((Go.Fn.style_Find_c n a0 a1)).bind fun r2 =>
 bif (!r2.2) then some (((0 : Int), ((0 : Int), ((0 : Int), ()))), (66 : Int))
 else ((Go.Fn.style_whole_c n a0 r2.1)).bind fun r3 =>
 some (r3, (0 : Int))
theorem style_Whole_le (n : Nat) (a0 : List ((List (UInt8)) × ((List (UInt8)) × (((Int) × ((Int) × ((Int) × (Unit)))) × (Unit))))) (a1 : List (UInt8)) : Go.Lf.Le (style_Whole_c n a0 a1) (style_Whole a0 a1) := by
  unfold style_Whole_c style_Whole
  repeat' first
    | with_reducible exact Go.Fn.style_Check_le n _
    | with_reducible exact Go.Fn.style_Find_le n _ _
    | with_reducible exact Go.Fn.style_whole_le n _ _
    | with_reducible refine Go.Lf.Le.bind ?_ (fun _ => ?_)
    | with_reducible refine Go.Lf.Le.cond ?_ ?_
    | with_reducible refine Go.Lf.Le.loop (fun _ => ?_)
    | with_reducible refine Go.Lf.Le.onSum (fun _ => ?_) (fun _ => ?_)
    | with_reducible exact Go.Lf.Le.refl
noncomputable def style_Nest_c (n : Nat) (a0 : List ((List (UInt8)) × ((List (UInt8)) × (((Int) × ((Int) × ((Int) × (Unit)))) × (Unit))))) (a1 : List (List (UInt8))) : Option (((Int) × ((Int) × (Unit))) × ((Int) × (Int))) :=
 ((Go.Fn.style_Check_c n a0)).bind fun r1 =>
 bif (decide ((r1.2 : Int) ≠ (0 : Int))) then some (((0 : Int), ((0 : Int), ())), ((0 : Int), r1.2))
 else bif (decide ((32 : Int) < (((List.length a1) : Nat) : Int))) then some (((0 : Int), ((0 : Int), ())), ((0 : Int), (2 : Int)))
 else (Go.Lf.loopF n (σ := (Int) × (((Int) × ((Int) × (Unit))) × ((Int) × ((Int) × (Unit))))) (κ := (((Int) × ((Int) × (Unit))) × ((Int) × ((Int) × (Unit)))) ⊕ ((Int) × ((Int) × ((Int) × ((Int) × (Unit)))))) (fun z2 =>
     bif (decide (z2.1 < (((List.length a1) : Nat) : Int))) then ((Go.Lf.idx a1 z2.1)).bind fun r3 =>
     ((Go.Fn.style_Find_c n a0 r3)).bind fun r4 =>
     bif (!r4.2) then some (.inr (.inr (z2.1, ((66 : Int), ((0 : Int), ((0 : Int), ()))))))
     else ((Go.Fn.style_whole_c n a0 r4.1)).bind fun r5 =>
     ((Go.Fn.style_Apply_c n z2.2.2 r5)).bind fun r6 =>
     some (.inl ((Go.IntKind.wrap .i64 (z2.1 + (1 : Int))), (z2.2.1, r6)))
     else some (.inr (.inl (z2.2.1, z2.2.2)))) ((0 : Int), (((0 : Int), ((0 : Int), ())), ((0 : Int), ((7 : Int), ())))) : Option ((((Int) × ((Int) × (Unit))) × ((Int) × ((Int) × (Unit)))) ⊕ ((Int) × ((Int) × ((Int) × ((Int) × (Unit))))))).bind fun r7 =>
 Go.Lf.onSum r7 (fun a8 =>
 some (a8.2, ((0 : Int), (0 : Int)))) (fun b9 =>
 some (b9.2.2, (b9.1, b9.2.1)))
theorem style_Nest_le (n : Nat) (a0 : List ((List (UInt8)) × ((List (UInt8)) × (((Int) × ((Int) × ((Int) × (Unit)))) × (Unit))))) (a1 : List (List (UInt8))) : Go.Lf.Le (style_Nest_c n a0 a1) (style_Nest a0 a1) := by
  unfold style_Nest_c style_Nest
  repeat' first
    | with_reducible exact Go.Fn.style_Apply_le n _ _
    | with_reducible exact Go.Fn.style_Check_le n _
    | with_reducible exact Go.Fn.style_Find_le n _ _
    | with_reducible exact Go.Fn.style_whole_le n _ _
    | with_reducible refine Go.Lf.Le.bind ?_ (fun _ => ?_)
    | with_reducible refine Go.Lf.Le.cond ?_ ?_
    | with_reducible refine Go.Lf.Le.loop (fun _ => ?_)
    | with_reducible refine Go.Lf.Le.onSum (fun _ => ?_) (fun _ => ?_)
    | with_reducible exact Go.Lf.Le.refl
noncomputable def style_color_c (n : Nat) (a0 : List (List (UInt8))) : Option ((Int) × (Bool)) :=
 bif (decide (((((List.length a0) : Nat) : Int) : Int) = (0 : Int))) then some ((0 : Int), false)
 else ((Go.Lf.idx a0 (0 : Int))).bind fun r1 =>
 ((Go.Fn.strconv_Atoi_c n r1)).bind fun r2 =>
 (bif (Option.isNone r2.2) then bif (decide ((0 : Int) ≤ r2.1)) then bif (decide (r2.1 ≤ (15 : Int))) then ((Go.Fn.strconv_Itoa_c n r2.1)).bind fun r3 =>
   ((Go.Lf.idx a0 (0 : Int))).bind fun r4 =>
   some (r2.1, (decide ((r3 : List (UInt8)) = r4)))
   else some (r2.1, false)
   else some (r2.1, false)
   else some (r2.1, false)).bind fun r5 =>
 some (r5.1, r5.2)
theorem style_color_le (n : Nat) (a0 : List (List (UInt8))) : Go.Lf.Le (style_color_c n a0) (style_color a0) := by
  unfold style_color_c style_color
  repeat' first
    | with_reducible exact Go.Fn.strconv_Atoi_le n _
    | with_reducible exact Go.Fn.strconv_Itoa_le n _
    | with_reducible refine Go.Lf.Le.bind ?_ (fun _ => ?_)
    | with_reducible refine Go.Lf.Le.cond ?_ ?_
    | with_reducible refine Go.Lf.Le.loop (fun _ => ?_)
    | with_reducible refine Go.Lf.Le.onSum (fun _ => ?_) (fun _ => ?_)
    | with_reducible exact Go.Lf.Le.refl
noncomputable def style_words_c (n : Nat)  : Option (List (List (UInt8))) :=
 ((Go.Lf.made (16 : Nat) ([] : List (UInt8)) (7 : Int) (7 : Int))).bind fun r1 =>
 ((Go.Lf.chk (List.length r1) (0 : Int))).bind fun r2 =>
 ((Go.Lf.nth r1 r2)).bind fun r3 =>
 ((Go.Lf.chk (List.length (List.set r1 r2 ((98 : UInt8) :: ((111 : UInt8) :: ((108 : UInt8) :: ((100 : UInt8) :: ([] : List (UInt8)))))))) (1 : Int))).bind fun r4 =>
 ((Go.Lf.nth (List.set r1 r2 ((98 : UInt8) :: ((111 : UInt8) :: ((108 : UInt8) :: ((100 : UInt8) :: ([] : List (UInt8))))))) r4)).bind fun r5 =>
 ((Go.Lf.chk (List.length (List.set (List.set r1 r2 ((98 : UInt8) :: ((111 : UInt8) :: ((108 : UInt8) :: ((100 : UInt8) :: ([] : List (UInt8))))))) r4 ((105 : UInt8) :: ((116 : UInt8) :: ((97 : UInt8) :: ((108 : UInt8) :: ((105 : UInt8) :: ((99 : UInt8) :: ([] : List (UInt8)))))))))) (2 : Int))).bind fun r6 =>
 ((Go.Lf.nth (List.set (List.set r1 r2 ((98 : UInt8) :: ((111 : UInt8) :: ((108 : UInt8) :: ((100 : UInt8) :: ([] : List (UInt8))))))) r4 ((105 : UInt8) :: ((116 : UInt8) :: ((97 : UInt8) :: ((108 : UInt8) :: ((105 : UInt8) :: ((99 : UInt8) :: ([] : List (UInt8))))))))) r6)).bind fun r7 =>
 ((Go.Lf.chk (List.length (List.set (List.set (List.set r1 r2 ((98 : UInt8) :: ((111 : UInt8) :: ((108 : UInt8) :: ((100 : UInt8) :: ([] : List (UInt8))))))) r4 ((105 : UInt8) :: ((116 : UInt8) :: ((97 : UInt8) :: ((108 : UInt8) :: ((105 : UInt8) :: ((99 : UInt8) :: ([] : List (UInt8))))))))) r6 ((117 : UInt8) :: ((110 : UInt8) :: ((100 : UInt8) :: ((101 : UInt8) :: ((114 : UInt8) :: ([] : List (UInt8))))))))) (3 : Int))).bind fun r8 =>
 ((Go.Lf.nth (List.set (List.set (List.set r1 r2 ((98 : UInt8) :: ((111 : UInt8) :: ((108 : UInt8) :: ((100 : UInt8) :: ([] : List (UInt8))))))) r4 ((105 : UInt8) :: ((116 : UInt8) :: ((97 : UInt8) :: ((108 : UInt8) :: ((105 : UInt8) :: ((99 : UInt8) :: ([] : List (UInt8))))))))) r6 ((117 : UInt8) :: ((110 : UInt8) :: ((100 : UInt8) :: ((101 : UInt8) :: ((114 : UInt8) :: ([] : List (UInt8)))))))) r8)).bind fun r9 =>
 ((Go.Lf.chk (List.length (List.set (List.set (List.set (List.set r1 r2 ((98 : UInt8) :: ((111 : UInt8) :: ((108 : UInt8) :: ((100 : UInt8) :: ([] : List (UInt8))))))) r4 ((105 : UInt8) :: ((116 : UInt8) :: ((97 : UInt8) :: ((108 : UInt8) :: ((105 : UInt8) :: ((99 : UInt8) :: ([] : List (UInt8))))))))) r6 ((117 : UInt8) :: ((110 : UInt8) :: ((100 : UInt8) :: ((101 : UInt8) :: ((114 : UInt8) :: ([] : List (UInt8)))))))) r8 ((115 : UInt8) :: ((116 : UInt8) :: ((114 : UInt8) :: ((105 : UInt8) :: ((107 : UInt8) :: ((101 : UInt8) :: ([] : List (UInt8)))))))))) (4 : Int))).bind fun r10 =>
 ((Go.Lf.nth (List.set (List.set (List.set (List.set r1 r2 ((98 : UInt8) :: ((111 : UInt8) :: ((108 : UInt8) :: ((100 : UInt8) :: ([] : List (UInt8))))))) r4 ((105 : UInt8) :: ((116 : UInt8) :: ((97 : UInt8) :: ((108 : UInt8) :: ((105 : UInt8) :: ((99 : UInt8) :: ([] : List (UInt8))))))))) r6 ((117 : UInt8) :: ((110 : UInt8) :: ((100 : UInt8) :: ((101 : UInt8) :: ((114 : UInt8) :: ([] : List (UInt8)))))))) r8 ((115 : UInt8) :: ((116 : UInt8) :: ((114 : UInt8) :: ((105 : UInt8) :: ((107 : UInt8) :: ((101 : UInt8) :: ([] : List (UInt8))))))))) r10)).bind fun r11 =>
 ((Go.Lf.chk (List.length (List.set (List.set (List.set (List.set (List.set r1 r2 ((98 : UInt8) :: ((111 : UInt8) :: ((108 : UInt8) :: ((100 : UInt8) :: ([] : List (UInt8))))))) r4 ((105 : UInt8) :: ((116 : UInt8) :: ((97 : UInt8) :: ((108 : UInt8) :: ((105 : UInt8) :: ((99 : UInt8) :: ([] : List (UInt8))))))))) r6 ((117 : UInt8) :: ((110 : UInt8) :: ((100 : UInt8) :: ((101 : UInt8) :: ((114 : UInt8) :: ([] : List (UInt8)))))))) r8 ((115 : UInt8) :: ((116 : UInt8) :: ((114 : UInt8) :: ((105 : UInt8) :: ((107 : UInt8) :: ((101 : UInt8) :: ([] : List (UInt8))))))))) r10 ((109 : UInt8) :: ((111 : UInt8) :: ((110 : UInt8) :: ((111 : UInt8) :: ([] : List (UInt8)))))))) (5 : Int))).bind fun r12 =>
 ((Go.Lf.nth (List.set (List.set (List.set (List.set (List.set r1 r2 ((98 : UInt8) :: ((111 : UInt8) :: ((108 : UInt8) :: ((100 : UInt8) :: ([] : List (UInt8))))))) r4 ((105 : UInt8) :: ((116 : UInt8) :: ((97 : UInt8) :: ((108 : UInt8) :: ((105 : UInt8) :: ((99 : UInt8) :: ([] : List (UInt8))))))))) r6 ((117 : UInt8) :: ((110 : UInt8) :: ((100 : UInt8) :: ((101 : UInt8) :: ((114 : UInt8) :: ([] : List (UInt8)))))))) r8 ((115 : UInt8) :: ((116 : UInt8) :: ((114 : UInt8) :: ((105 : UInt8) :: ((107 : UInt8) :: ((101 : UInt8) :: ([] : List (UInt8))))))))) r10 ((109 : UInt8) :: ((111 : UInt8) :: ((110 : UInt8) :: ((111 : UInt8) :: ([] : List (UInt8))))))) r12)).bind fun r13 =>
 ((Go.Lf.chk (List.length (List.set (List.set (List.set (List.set (List.set (List.set r1 r2 ((98 : UInt8) :: ((111 : UInt8) :: ((108 : UInt8) :: ((100 : UInt8) :: ([] : List (UInt8))))))) r4 ((105 : UInt8) :: ((116 : UInt8) :: ((97 : UInt8) :: ((108 : UInt8) :: ((105 : UInt8) :: ((99 : UInt8) :: ([] : List (UInt8))))))))) r6 ((117 : UInt8) :: ((110 : UInt8) :: ((100 : UInt8) :: ((101 : UInt8) :: ((114 : UInt8) :: ([] : List (UInt8)))))))) r8 ((115 : UInt8) :: ((116 : UInt8) :: ((114 : UInt8) :: ((105 : UInt8) :: ((107 : UInt8) :: ((101 : UInt8) :: ([] : List (UInt8))))))))) r10 ((109 : UInt8) :: ((111 : UInt8) :: ((110 : UInt8) :: ((111 : UInt8) :: ([] : List (UInt8))))))) r12 ((115 : UInt8) :: ((109 : UInt8) :: ((97 : UInt8) :: ((108 : UInt8) :: ((108 : UInt8) :: ([] : List (UInt8))))))))) (6 : Int))).bind fun r14 =>
 ((Go.Lf.nth (List.set (List.set (List.set (List.set (List.set (List.set r1 r2 ((98 : UInt8) :: ((111 : UInt8) :: ((108 : UInt8) :: ((100 : UInt8) :: ([] : List (UInt8))))))) r4 ((105 : UInt8) :: ((116 : UInt8) :: ((97 : UInt8) :: ((108 : UInt8) :: ((105 : UInt8) :: ((99 : UInt8) :: ([] : List (UInt8))))))))) r6 ((117 : UInt8) :: ((110 : UInt8) :: ((100 : UInt8) :: ((101 : UInt8) :: ((114 : UInt8) :: ([] : List (UInt8)))))))) r8 ((115 : UInt8) :: ((116 : UInt8) :: ((114 : UInt8) :: ((105 : UInt8) :: ((107 : UInt8) :: ((101 : UInt8) :: ([] : List (UInt8))))))))) r10 ((109 : UInt8) :: ((111 : UInt8) :: ((110 : UInt8) :: ((111 : UInt8) :: ([] : List (UInt8))))))) r12 ((115 : UInt8) :: ((109 : UInt8) :: ((97 : UInt8) :: ((108 : UInt8) :: ((108 : UInt8) :: ([] : List (UInt8)))))))) r14)).bind fun r15 =>
 some (List.set (List.set (List.set (List.set (List.set (List.set (List.set r1 r2 ((98 : UInt8) :: ((111 : UInt8) :: ((108 : UInt8) :: ((100 : UInt8) :: ([] : List (UInt8))))))) r4 ((105 : UInt8) :: ((116 : UInt8) :: ((97 : UInt8) :: ((108 : UInt8) :: ((105 : UInt8) :: ((99 : UInt8) :: ([] : List (UInt8))))))))) r6 ((117 : UInt8) :: ((110 : UInt8) :: ((100 : UInt8) :: ((101 : UInt8) :: ((114 : UInt8) :: ([] : List (UInt8)))))))) r8 ((115 : UInt8) :: ((116 : UInt8) :: ((114 : UInt8) :: ((105 : UInt8) :: ((107 : UInt8) :: ((101 : UInt8) :: ([] : List (UInt8))))))))) r10 ((109 : UInt8) :: ((111 : UInt8) :: ((110 : UInt8) :: ((111 : UInt8) :: ([] : List (UInt8))))))) r12 ((115 : UInt8) :: ((109 : UInt8) :: ((97 : UInt8) :: ((108 : UInt8) :: ((108 : UInt8) :: ([] : List (UInt8)))))))) r14 ((114 : UInt8) :: ((101 : UInt8) :: ((118 : UInt8) :: ((101 : UInt8) :: ((114 : UInt8) :: ((115 : UInt8) :: ((101 : UInt8) :: ([] : List (UInt8))))))))))
theorem style_words_le (n : Nat)  : Go.Lf.Le (style_words_c n ) (style_words ) := by
  unfold style_words_c style_words
  repeat' first
    | with_reducible refine Go.Lf.Le.bind ?_ (fun _ => ?_)
    | with_reducible refine Go.Lf.Le.cond ?_ ?_
    | with_reducible refine Go.Lf.Le.loop (fun _ => ?_)
    | with_reducible refine Go.Lf.Le.onSum (fun _ => ?_) (fun _ => ?_)
    | with_reducible exact Go.Lf.Le.refl
noncomputable def style_attribute_c (n : Nat) (a0 : (List (UInt8)) × ((List (UInt8)) × (((Int) × ((Int) × ((Int) × (Unit)))) × (Unit)))) (a1 : List (UInt8)) : Option ((Bool) × ((List (UInt8)) × ((List (UInt8)) × (((Int) × ((Int) × ((Int) × (Unit)))) × (Unit))))) :=
 (Go.Fn.style_words_c n).bind fun r1 =>
 (Go.Lf.loopF n (σ := (Int) × ((List (UInt8)) × ((List (UInt8)) × (((Int) × ((Int) × ((Int) × (Unit)))) × (Unit))))) (κ := ((List (UInt8)) × ((List (UInt8)) × (((Int) × ((Int) × ((Int) × (Unit)))) × (Unit)))) ⊕ ((Bool) × ((List (UInt8)) × ((List (UInt8)) × (((Int) × ((Int) × ((Int) × (Unit)))) × (Unit)))))) (fun z2 =>
     bif (decide (z2.1 < (((List.length r1) : Nat) : Int))) then (((Go.Lf.idx r1 z2.1)).bind fun r3 =>
       (((Go.Lf.sub a1 (1 : Int) (((List.length a1) : Nat) : Int))).bind fun r4 =>
         bif (!(decide ((r4 : List (UInt8)) ≠ r3))) then ((Go.Lf.nn z2.1 (Int.fdiv (Go.Lf.bits .or .i64 z2.2.2.2.1.1 z2.2.2.2.1.2.1) ((2 : Int) ^ (Min.min (Int.toNat z2.1) (64 : Nat)))))).bind fun r5 =>
         some ((decide (((Go.Lf.bits .and .i64 r5 (1 : Int)) : Int) = (1 : Int))), z2.2)
         else some (true, z2.2)).bind fun r6 =>
       bif r6.1 then some (.inl r6.2)
       else ((Go.Lf.idx a1 (0 : Int))).bind fun r7 =>
       bif (decide (((((UInt8.toNat r7) : Nat) : Int) : Int) = (43 : Int))) then ((Go.Lf.nn z2.1 (Go.IntKind.wrap .i64 ((1 : Int) * ((2 : Int) ^ (Min.min (Int.toNat z2.1) (64 : Nat))))))).bind fun r8 =>
       some (.inr (true, (r6.2.1, (r6.2.2.1, (((Go.Lf.bits .or .i64 r6.2.2.2.1.1 r8), r6.2.2.2.1.2), r6.2.2.2.2)))))
       else bif (decide (((((UInt8.toNat r7) : Nat) : Int) : Int) = (45 : Int))) then ((Go.Lf.nn z2.1 (Go.IntKind.wrap .i64 ((1 : Int) * ((2 : Int) ^ (Min.min (Int.toNat z2.1) (64 : Nat))))))).bind fun r9 =>
       some (.inr (true, (r6.2.1, (r6.2.2.1, ((r6.2.2.2.1.1, ((Go.Lf.bits .or .i64 r6.2.2.2.1.2.1 r9), r6.2.2.2.1.2.2)), r6.2.2.2.2)))))
       else some (.inl r6.2) : Option (((List (UInt8)) × ((List (UInt8)) × (((Int) × ((Int) × ((Int) × (Unit)))) × (Unit)))) ⊕ ((Bool) × ((List (UInt8)) × ((List (UInt8)) × (((Int) × ((Int) × ((Int) × (Unit)))) × (Unit))))))).bind fun r10 =>
     Go.Lf.onSum r10 (fun a11 =>
     some (.inl ((Go.IntKind.wrap .i64 (z2.1 + (1 : Int))), a11))) (fun b12 =>
     some (.inr (.inr (b12.1, b12.2))))
     else some (.inr (.inl z2.2))) ((0 : Int), a0) : Option (((List (UInt8)) × ((List (UInt8)) × (((Int) × ((Int) × ((Int) × (Unit)))) × (Unit)))) ⊕ ((Bool) × ((List (UInt8)) × ((List (UInt8)) × (((Int) × ((Int) × ((Int) × (Unit)))) × (Unit))))))).bind fun r13 =>
 Go.Lf.onSum r13 (fun a14 =>
 some (false, a14)) (fun b15 =>
 some (b15.1, b15.2))
theorem style_attribute_le (n : Nat) (a0 : (List (UInt8)) × ((List (UInt8)) × (((Int) × ((Int) × ((Int) × (Unit)))) × (Unit)))) (a1 : List (UInt8)) : Go.Lf.Le (style_attribute_c n a0 a1) (style_attribute a0 a1) := by
  unfold style_attribute_c style_attribute
  repeat' first
    | with_reducible exact Go.Fn.style_words_le n
    | with_reducible refine Go.Lf.Le.bind ?_ (fun _ => ?_)
    | with_reducible refine Go.Lf.Le.cond ?_ ?_
    | with_reducible refine Go.Lf.Le.loop (fun _ => ?_)
    | with_reducible refine Go.Lf.Le.onSum (fun _ => ?_) (fun _ => ?_)
    | with_reducible exact Go.Lf.Le.refl
noncomputable def style_Parse_c (n : Nat) (a0 : List (UInt8)) : Option (((List (UInt8)) × ((List (UInt8)) × (((Int) × ((Int) × ((Int) × (Unit)))) × (Unit)))) × (Int)) :=
 bif (decide ((4096 : Int) < (((List.length a0) : Nat) : Int))) then some ((([] : List (UInt8)), (([] : List (UInt8)), (((0 : Int), ((0 : Int), ((0 : Int), ()))), ()))), (2 : Int))
 else ((Go.Fn.strings_FieldsFunc_c n a0 ())).bind fun r1 =>
 bif (decide (((((List.length r1) : Nat) : Int) : Int) = (0 : Int))) then some ((([] : List (UInt8)), (([] : List (UInt8)), (((0 : Int), ((0 : Int), ((0 : Int), ()))), ()))), (67 : Int))
 else ((Go.Lf.idx r1 (0 : Int))).bind fun r2 =>
 ((Go.Fn.strings_Cut_c n r2 ((58 : UInt8) :: ([] : List (UInt8))))).bind fun r3 =>
 (((Go.Fn.style_named_c n r3.1)).bind fun r4 =>
   bif (!(!r4)) then bif r3.2.2 then ((Go.Fn.style_named_c n r3.2.1)).bind fun r5 =>
   some ((!r5), (([] : List (UInt8)), (([] : List (UInt8)), (((0 : Int), ((0 : Int), ((0 : Int), ()))), ()))))
   else some (false, (([] : List (UInt8)), (([] : List (UInt8)), (((0 : Int), ((0 : Int), ((0 : Int), ()))), ()))))
   else some (true, (([] : List (UInt8)), (([] : List (UInt8)), (((0 : Int), ((0 : Int), ((0 : Int), ()))), ()))))).bind fun r6 =>
 bif r6.1 then some ((([] : List (UInt8)), (([] : List (UInt8)), (((0 : Int), ((0 : Int), ((0 : Int), ()))), ()))), (67 : Int))
 else (Go.Fn.style_plain_c n).bind fun r7 =>
 (Go.Lf.loopF n (σ := (Int) × (((List (UInt8)) × ((List (UInt8)) × (((Int) × ((Int) × ((Int) × (Unit)))) × (Unit)))) × ((List (UInt8)) × ((List (UInt8)) × (((Int) × ((Int) × ((Int) × (Unit)))) × (Unit)))))) (κ := (((List (UInt8)) × ((List (UInt8)) × (((Int) × ((Int) × ((Int) × (Unit)))) × (Unit)))) × ((List (UInt8)) × ((List (UInt8)) × (((Int) × ((Int) × ((Int) × (Unit)))) × (Unit))))) ⊕ ((Int) × ((List (UInt8)) × ((List (UInt8)) × (((Int) × ((Int) × ((Int) × (Unit)))) × (Unit)))))) (fun z8 =>
     bif (decide (z8.1 < (((List.length r1) : Nat) : Int))) then (((Go.Lf.idx r1 z8.1)).bind fun r9 =>
       bif (decide ((r9 : List (UInt8)) = ((99 : UInt8) :: ((111 : UInt8) :: ((108 : UInt8) :: ((111 : UInt8) :: ((114 : UInt8) :: ([] : List (UInt8))))))))) then ((Go.Lf.sub r1 (Go.IntKind.wrap .i64 (z8.1 + (1 : Int))) (((List.length r1) : Nat) : Int))).bind fun r10 =>
       ((Go.Fn.style_color_c n r10)).bind fun r11 =>
       (bif (!(!r11.2)) then some ((decide ((z8.2.2.2.2.1.2.2.1 : Int) ≠ (-(1 : Int)))), (z8.2.1, z8.2.2))
         else some (true, (z8.2.1, z8.2.2))).bind fun r12 =>
       bif r12.1 then some (.inl ((67 : Int), (([] : List (UInt8)), (([] : List (UInt8)), (((0 : Int), ((0 : Int), ((0 : Int), ()))), ())))))
       else some (.inr ((Go.IntKind.wrap .i64 (z8.1 + (1 : Int))), (r12.2.1, (r12.2.2.1, (r12.2.2.2.1, ((r12.2.2.2.2.1.1, (r12.2.2.2.2.1.2.1, (r11.1, r12.2.2.2.2.1.2.2.2))), r12.2.2.2.2.2))))))
       else ((Go.Lf.idx r1 z8.1)).bind fun r13 =>
       ((Go.Fn.style_attribute_c n z8.2.2 r13)).bind fun r14 =>
       bif (!r14.1) then some (.inl ((67 : Int), (([] : List (UInt8)), (([] : List (UInt8)), (((0 : Int), ((0 : Int), ((0 : Int), ()))), ())))))
       else some (.inr (z8.1, (z8.2.1, r14.2))) : Option (((Int) × ((List (UInt8)) × ((List (UInt8)) × (((Int) × ((Int) × ((Int) × (Unit)))) × (Unit))))) ⊕ ((Int) × (((List (UInt8)) × ((List (UInt8)) × (((Int) × ((Int) × ((Int) × (Unit)))) × (Unit)))) × ((List (UInt8)) × ((List (UInt8)) × (((Int) × ((Int) × ((Int) × (Unit)))) × (Unit)))))))).bind fun r15 =>
     Go.Lf.onSum r15 (fun a16 =>
     some (.inr (.inr (a16.1, a16.2)))) (fun b17 =>
     some (.inl ((Go.IntKind.wrap .i64 (b17.1 + (1 : Int))), (b17.2.1, b17.2.2))))
     else some (.inr (.inl (z8.2.1, z8.2.2)))) ((1 : Int), (r6.2, (r3.1, (r3.2.1, (r7, ()))))) : Option ((((List (UInt8)) × ((List (UInt8)) × (((Int) × ((Int) × ((Int) × (Unit)))) × (Unit)))) × ((List (UInt8)) × ((List (UInt8)) × (((Int) × ((Int) × ((Int) × (Unit)))) × (Unit))))) ⊕ ((Int) × ((List (UInt8)) × ((List (UInt8)) × (((Int) × ((Int) × ((Int) × (Unit)))) × (Unit))))))).bind fun r18 =>
 Go.Lf.onSum r18 (fun a19 =>
 some (a19.2, (0 : Int))) (fun b20 =>
 some (b20.2, b20.1))
theorem style_Parse_le (n : Nat) (a0 : List (UInt8)) : Go.Lf.Le (style_Parse_c n a0) (style_Parse a0) := by
  unfold style_Parse_c style_Parse
  repeat' first
    | with_reducible exact Go.Fn.strings_Cut_le n _ _
    | with_reducible exact Go.Fn.strings_FieldsFunc_le n _ _
    | with_reducible exact Go.Fn.style_attribute_le n _ _
    | with_reducible exact Go.Fn.style_color_le n _
    | with_reducible exact Go.Fn.style_named_le n _
    | with_reducible exact Go.Fn.style_plain_le n
    | with_reducible refine Go.Lf.Le.bind ?_ (fun _ => ?_)
    | with_reducible refine Go.Lf.Le.cond ?_ ?_
    | with_reducible refine Go.Lf.Le.loop (fun _ => ?_)
    | with_reducible refine Go.Lf.Le.onSum (fun _ => ?_) (fun _ => ?_)
    | with_reducible exact Go.Lf.Le.refl
noncomputable def style_Write_c (n : Nat) (a0 : (List (UInt8)) × ((List (UInt8)) × (((Int) × ((Int) × ((Int) × (Unit)))) × (Unit)))) : Option ((List (UInt8)) × (Int)) :=
 ((Go.Fn.style_named_c n a0.1)).bind fun r1 =>
 bif (!r1) then some (([] : List (UInt8)), (60 : Int))
 else ((Go.Fn.style_change_c n a0.2.2.1)).bind fun r2 =>
 bif (decide ((r2 : Int) ≠ (0 : Int))) then some (([] : List (UInt8)), r2)
 else (bif (decide ((a0.2.1 : List (UInt8)) ≠ ([] : List (UInt8)))) then ((Go.Fn.style_named_c n a0.2.1)).bind fun r3 =>
   some ((!r3), a0)
   else some (false, a0)).bind fun r4 =>
 bif r4.1 then some (([] : List (UInt8)), (64 : Int))
 else (bif (decide ((r4.2.2.1 : List (UInt8)) ≠ ([] : List (UInt8)))) then ((Go.Lf.cat ((58 : UInt8) :: ([] : List (UInt8))) r4.2.2.1)).bind fun r5 =>
   ((Go.Lf.cat r4.2.1 r5)).bind fun r6 =>
   some (r6, r4.2)
   else some (r4.2.1, r4.2)).bind fun r7 =>
 (Go.Lf.loopF n (σ := (List (UInt8)) × ((Int) × ((List (UInt8)) × ((List (UInt8)) × (((Int) × ((Int) × ((Int) × (Unit)))) × (Unit)))))) (κ := (List (UInt8)) × ((List (UInt8)) × ((List (UInt8)) × (((Int) × ((Int) × ((Int) × (Unit)))) × (Unit))))) (fun z8 =>
     bif (decide (z8.2.1 < (2 : Int))) then ((Go.Lf.idx (((32 : UInt8) :: ((43 : UInt8) :: ([] : List (UInt8)))) :: (((32 : UInt8) :: ((45 : UInt8) :: ([] : List (UInt8)))) :: ([] : List (List (UInt8))))) z8.2.1)).bind fun r9 =>
     ((Go.Lf.idx (z8.2.2.2.2.1.1 :: (z8.2.2.2.2.1.2.1 :: ([] : List (Int)))) z8.2.1)).bind fun r10 =>
     (Go.Fn.style_words_c n).bind fun r11 =>
     (Go.Lf.loopF n (σ := (Int) × ((List (UInt8)) × ((List (UInt8)) × ((List (UInt8)) × (((Int) × ((Int) × ((Int) × (Unit)))) × (Unit)))))) (κ := (List (UInt8)) × ((List (UInt8)) × ((List (UInt8)) × (((Int) × ((Int) × ((Int) × (Unit)))) × (Unit))))) (fun z12 =>
         bif (decide (z12.1 < (((List.length r11) : Nat) : Int))) then (((Go.Lf.idx r11 z12.1)).bind fun r13 =>
           ((Go.Lf.nn z12.1 (Int.fdiv r10 ((2 : Int) ^ (Min.min (Int.toNat z12.1) (64 : Nat)))))).bind fun r14 =>
           bif (decide (((Go.Lf.bits .and .i64 r14 (1 : Int)) : Int) = (1 : Int))) then ((Go.Lf.cat r9 r13)).bind fun r15 =>
           ((Go.Lf.cat z12.2.1 r15)).bind fun r16 =>
           some (r16, z12.2.2)
           else some (z12.2.1, z12.2.2)).bind fun r17 =>
         some (.inl ((Go.IntKind.wrap .i64 (z12.1 + (1 : Int))), (r17.1, r17.2)))
         else some (.inr (z12.2.1, z12.2.2))) ((0 : Int), (z8.1, z8.2.2)) : Option ((List (UInt8)) × ((List (UInt8)) × ((List (UInt8)) × (((Int) × ((Int) × ((Int) × (Unit)))) × (Unit)))))).bind fun r18 =>
     some (.inl (r18.1, ((Go.IntKind.wrap .i64 (z8.2.1 + (1 : Int))), r18.2)))
     else some (.inr (z8.1, z8.2.2))) (r7.1, ((0 : Int), r7.2)) : Option ((List (UInt8)) × ((List (UInt8)) × ((List (UInt8)) × (((Int) × ((Int) × ((Int) × (Unit)))) × (Unit)))))).bind fun r19 =>
 (bif (decide ((r19.2.2.2.1.2.2.1 : Int) ≠ (-(1 : Int)))) then ((Go.Fn.strconv_Itoa_c n r19.2.2.2.1.2.2.1)).bind fun r20 =>
   ((Go.Lf.cat ((32 : UInt8) :: ((99 : UInt8) :: ((111 : UInt8) :: ((108 : UInt8) :: ((111 : UInt8) :: ((114 : UInt8) :: ((32 : UInt8) :: ([] : List (UInt8))))))))) r20)).bind fun r21 =>
   ((Go.Lf.cat r19.1 r21)).bind fun r22 =>
   some r22
   else some r19.1).bind fun r23 =>
 some (r23, (0 : Int))
theorem style_Write_le (n : Nat) (a0 : (List (UInt8)) × ((List (UInt8)) × (((Int) × ((Int) × ((Int) × (Unit)))) × (Unit)))) : Go.Lf.Le (style_Write_c n a0) (style_Write a0) := by
  unfold style_Write_c style_Write
  repeat' first
    | with_reducible exact Go.Fn.strconv_Itoa_le n _
    | with_reducible exact Go.Fn.style_change_le n _
    | with_reducible exact Go.Fn.style_named_le n _
    | with_reducible exact Go.Fn.style_words_le n
    | with_reducible refine Go.Lf.Le.bind ?_ (fun _ => ?_)
    | with_reducible refine Go.Lf.Le.cond ?_ ?_
    | with_reducible refine Go.Lf.Le.loop (fun _ => ?_)
    | with_reducible refine Go.Lf.Le.onSum (fun _ => ?_) (fun _ => ?_)
    | with_reducible exact Go.Lf.Le.refl
noncomputable def style_Base_c (n : Nat)  : Option (List ((List (UInt8)) × ((List (UInt8)) × (((Int) × ((Int) × ((Int) × (Unit)))) × (Unit))))) :=
 (Go.Lf.loopF n (σ := (Int) × (List ((List (UInt8)) × ((List (UInt8)) × (((Int) × ((Int) × ((Int) × (Unit)))) × (Unit)))))) (κ := List ((List (UInt8)) × ((List (UInt8)) × (((Int) × ((Int) × ((Int) × (Unit)))) × (Unit))))) (fun z1 =>
     bif (decide (z1.1 < (((List.length (((98 : UInt8) :: ([] : List (UInt8))) :: (((105 : UInt8) :: ([] : List (UInt8))) :: (((117 : UInt8) :: ([] : List (UInt8))) :: (((115 : UInt8) :: ([] : List (UInt8))) :: (((109 : UInt8) :: ([] : List (UInt8))) :: (((104 : UInt8) :: ([] : List (UInt8))) :: ([] : List (List (UInt8)))))))))) : Nat) : Int))) then ((Go.Lf.idx (((98 : UInt8) :: ([] : List (UInt8))) :: (((105 : UInt8) :: ([] : List (UInt8))) :: (((117 : UInt8) :: ([] : List (UInt8))) :: (((115 : UInt8) :: ([] : List (UInt8))) :: (((109 : UInt8) :: ([] : List (UInt8))) :: (((104 : UInt8) :: ([] : List (UInt8))) :: ([] : List (List (UInt8))))))))) z1.1)).bind fun r2 =>
     ((Go.Lf.idx ((1 : Int) :: ((2 : Int) :: ((4 : Int) :: ((8 : Int) :: ((16 : Int) :: ((5 : Int) :: ([] : List (Int)))))))) z1.1)).bind fun r3 =>
     ((Go.Lf.app (56 : Nat) z1.2 ((r2, (([] : List (UInt8)), ((r3, ((0 : Int), ((-(1 : Int)), ()))), ()))) :: ([] : List ((List (UInt8)) × ((List (UInt8)) × (((Int) × ((Int) × ((Int) × (Unit)))) × (Unit)))))))).bind fun r4 =>
     some (.inl ((Go.IntKind.wrap .i64 (z1.1 + (1 : Int))), r4))
     else some (.inr z1.2)) ((0 : Int), ([] : List ((List (UInt8)) × ((List (UInt8)) × (((Int) × ((Int) × ((Int) × (Unit)))) × (Unit)))))) : Option (List ((List (UInt8)) × ((List (UInt8)) × (((Int) × ((Int) × ((Int) × (Unit)))) × (Unit)))))).bind fun r5 =>
 some r5
theorem style_Base_le (n : Nat)  : Go.Lf.Le (style_Base_c n ) (style_Base ) := by
  unfold style_Base_c style_Base
  repeat' first
    | with_reducible refine Go.Lf.Le.bind ?_ (fun _ => ?_)
    | with_reducible refine Go.Lf.Le.cond ?_ ?_
    | with_reducible refine Go.Lf.Le.loop (fun _ => ?_)
    | with_reducible refine Go.Lf.Le.onSum (fun _ => ?_) (fun _ => ?_)
    | with_reducible exact Go.Lf.Le.refl
noncomputable def foliolaw06_awake_c (n : Nat)  : Option (Bool) :=
 (Go.Fn.folioref06_Base_c n).bind fun r1 =>
 ((Go.Fn.style_Whole_c n r1 ((104 : UInt8) :: ([] : List (UInt8))))).bind fun r2 =>
 (Go.Fn.folioref06_Base_c n).bind fun r3 =>
 ((Go.Fn.style_Nest_c n r3 (((98 : UInt8) :: ([] : List (UInt8))) :: (((105 : UInt8) :: ([] : List (UInt8))) :: ([] : List (List (UInt8))))))).bind fun r4 =>
 ((Go.Fn.style_Parse_c n ((32 : UInt8) :: ((119 : UInt8) :: ((97 : UInt8) :: ((114 : UInt8) :: ((110 : UInt8) :: ((58 : UInt8) :: ((98 : UInt8) :: ((32 : UInt8) :: ((32 : UInt8) :: ((99 : UInt8) :: ((111 : UInt8) :: ((108 : UInt8) :: ((111 : UInt8) :: ((114 : UInt8) :: ((32 : UInt8) :: ((49 : UInt8) :: ((32 : UInt8) :: ((43 : UInt8) :: ((117 : UInt8) :: ((110 : UInt8) :: ((100 : UInt8) :: ((101 : UInt8) :: ((114 : UInt8) :: ((32 : UInt8) :: ((45 : UInt8) :: ((98 : UInt8) :: ((111 : UInt8) :: ((108 : UInt8) :: ((100 : UInt8) :: ((32 : UInt8) :: ([] : List (UInt8)))))))))))))))))))))))))))))))))).bind fun r5 =>
 ((Go.Fn.style_Write_c n r5.1)).bind fun r6 =>
 (bif (decide ((r2.2 : Int) = (0 : Int))) then ((Go.Fn.foliolaw06_same_c n r2.1 ((5 : Int), ((0 : Int), ((-(1 : Int)), ()))))).bind fun r7 =>
   bif r7 then bif (decide ((r4.2.2 : Int) = (0 : Int))) then ((Go.Fn.foliolaw06_look_c n r4.1 ((3 : Int), ((7 : Int), ())))).bind fun r8 =>
   bif r8 then bif (decide ((r5.2 : Int) = (0 : Int))) then bif (decide ((r6.2 : Int) = (0 : Int))) then bif (decide ((r6.1 : List (UInt8)) = ((119 : UInt8) :: ((97 : UInt8) :: ((114 : UInt8) :: ((110 : UInt8) :: ((58 : UInt8) :: ((98 : UInt8) :: ((32 : UInt8) :: ((43 : UInt8) :: ((117 : UInt8) :: ((110 : UInt8) :: ((100 : UInt8) :: ((101 : UInt8) :: ((114 : UInt8) :: ((32 : UInt8) :: ((45 : UInt8) :: ((98 : UInt8) :: ((111 : UInt8) :: ((108 : UInt8) :: ((100 : UInt8) :: ((32 : UInt8) :: ((99 : UInt8) :: ((111 : UInt8) :: ((108 : UInt8) :: ((111 : UInt8) :: ((114 : UInt8) :: ((32 : UInt8) :: ((49 : UInt8) :: ([] : List (UInt8))))))))))))))))))))))))))))))) then (Go.Fn.style_Base_c n).bind fun r9 =>
   some (decide (((((List.length r9) : Nat) : Int) : Int) = (6 : Int)))
   else some false
   else some false
   else some false
   else some false
   else some false
   else some false
   else some false).bind fun r10 =>
 some r10
theorem foliolaw06_awake_le (n : Nat)  : Go.Lf.Le (foliolaw06_awake_c n ) (foliolaw06_awake ) := by
  unfold foliolaw06_awake_c foliolaw06_awake
  repeat' first
    | with_reducible exact Go.Fn.foliolaw06_look_le n _ _
    | with_reducible exact Go.Fn.foliolaw06_same_le n _ _
    | with_reducible exact Go.Fn.folioref06_Base_le n
    | with_reducible exact Go.Fn.style_Base_le n
    | with_reducible exact Go.Fn.style_Nest_le n _ _
    | with_reducible exact Go.Fn.style_Parse_le n _
    | with_reducible exact Go.Fn.style_Whole_le n _ _
    | with_reducible exact Go.Fn.style_Write_le n _
    | with_reducible refine Go.Lf.Le.bind ?_ (fun _ => ?_)
    | with_reducible refine Go.Lf.Le.cond ?_ ?_
    | with_reducible refine Go.Lf.Le.loop (fun _ => ?_)
    | with_reducible refine Go.Lf.Le.onSum (fun _ => ?_) (fun _ => ?_)
    | with_reducible exact Go.Lf.Le.refl
noncomputable def foliolaw06_StyleChanges_c (n : Nat) (a0 : (Int) × ((Int) × ((Int) × (Unit)))) (a1 : (Int) × ((Int) × ((Int) × (Unit)))) (a2 : (Int) × ((Int) × (Unit))) : Option (Bool) :=
 (((Go.Fn.style_Then_c n a0 a1)).bind fun r1 =>
   ((Go.Fn.folioref06_Then_c n a0 a1)).bind fun r2 =>
   ((Go.Fn.foliolaw06_same_c n r1 r2)).bind fun r3 =>
   bif r3 then ((Go.Fn.style_Apply_c n a2 a0)).bind fun r4 =>
   ((Go.Fn.folioref06_Apply_c n a2 a0)).bind fun r5 =>
   ((Go.Fn.foliolaw06_look_c n r4 r5)).bind fun r6 =>
   bif r6 then (Go.Fn.foliolaw06_awake_c n).bind fun r7 =>
   some r7
   else some false
   else some false).bind fun r8 =>
 some r8
theorem foliolaw06_StyleChanges_le (n : Nat) (a0 : (Int) × ((Int) × ((Int) × (Unit)))) (a1 : (Int) × ((Int) × ((Int) × (Unit)))) (a2 : (Int) × ((Int) × (Unit))) : Go.Lf.Le (foliolaw06_StyleChanges_c n a0 a1 a2) (foliolaw06_StyleChanges a0 a1 a2) := by
  unfold foliolaw06_StyleChanges_c foliolaw06_StyleChanges
  repeat' first
    | with_reducible exact Go.Fn.foliolaw06_awake_le n
    | with_reducible exact Go.Fn.foliolaw06_look_le n _ _
    | with_reducible exact Go.Fn.foliolaw06_same_le n _ _
    | with_reducible exact Go.Fn.folioref06_Apply_le n _ _
    | with_reducible exact Go.Fn.folioref06_Then_le n _ _
    | with_reducible exact Go.Fn.style_Apply_le n _ _
    | with_reducible exact Go.Fn.style_Then_le n _ _
    | with_reducible refine Go.Lf.Le.bind ?_ (fun _ => ?_)
    | with_reducible refine Go.Lf.Le.cond ?_ ?_
    | with_reducible refine Go.Lf.Le.loop (fun _ => ?_)
    | with_reducible refine Go.Lf.Le.onSum (fun _ => ?_) (fun _ => ?_)
    | with_reducible exact Go.Lf.Le.refl
noncomputable def foliolaw06_apart_c (n : Nat) (a0 : (Int) × ((Int) × ((Int) × (Unit)))) : Option (Bool) :=
 some (decide (((Go.Lf.bits .and .i64 a0.1 a0.2.1) : Int) = (0 : Int)))
theorem foliolaw06_apart_le (n : Nat) (a0 : (Int) × ((Int) × ((Int) × (Unit)))) : Go.Lf.Le (foliolaw06_apart_c n a0) (foliolaw06_apart a0) := by
  unfold foliolaw06_apart_c foliolaw06_apart
  repeat' first
    | with_reducible refine Go.Lf.Le.bind ?_ (fun _ => ?_)
    | with_reducible refine Go.Lf.Le.cond ?_ ?_
    | with_reducible refine Go.Lf.Le.loop (fun _ => ?_)
    | with_reducible refine Go.Lf.Le.onSum (fun _ => ?_) (fun _ => ?_)
    | with_reducible exact Go.Lf.Le.refl
noncomputable def foliolaw06_StyleAssociates_c (n : Nat) (a0 : (Int) × ((Int) × ((Int) × (Unit)))) (a1 : (Int) × ((Int) × ((Int) × (Unit)))) (a2 : (Int) × ((Int) × ((Int) × (Unit)))) (a3 : (Int) × ((Int) × (Unit))) : Option (Bool) :=
 (Go.Fn.foliolaw06_awake_c n).bind fun r1 =>
 bif (!r1) then some false
 else (((Go.Fn.foliolaw06_apart_c n a0)).bind fun r2 =>
   bif (!(!r2)) then ((Go.Fn.foliolaw06_apart_c n a1)).bind fun r3 =>
   bif (!(!r3)) then ((Go.Fn.foliolaw06_apart_c n a2)).bind fun r4 =>
   some ((!r4), (a3, (a0, (a2, a1))))
   else some (true, (a3, (a0, (a2, a1))))
   else some (true, (a3, (a0, (a2, a1))))).bind fun r5 =>
 bif r5.1 then some true
 else (((Go.Fn.style_Apply_c n r5.2.1 r5.2.2.1)).bind fun r6 =>
   ((Go.Fn.style_Apply_c n r6 r5.2.2.2.2)).bind fun r7 =>
   ((Go.Fn.style_Then_c n r5.2.2.1 r5.2.2.2.2)).bind fun r8 =>
   ((Go.Fn.style_Apply_c n r5.2.1 r8)).bind fun r9 =>
   ((Go.Fn.foliolaw06_look_c n r7 r9)).bind fun r10 =>
   bif r10 then ((Go.Fn.style_Then_c n r5.2.2.1 r5.2.2.2.2)).bind fun r11 =>
   ((Go.Fn.style_Then_c n r11 r5.2.2.2.1)).bind fun r12 =>
   ((Go.Fn.style_Then_c n r5.2.2.2.2 r5.2.2.2.1)).bind fun r13 =>
   ((Go.Fn.style_Then_c n r5.2.2.1 r13)).bind fun r14 =>
   ((Go.Fn.foliolaw06_same_c n r12 r14)).bind fun r15 =>
   bif r15 then ((Go.Fn.style_Then_c n r5.2.2.1 ((0 : Int), ((0 : Int), ((-(1 : Int)), ()))))).bind fun r16 =>
   ((Go.Fn.foliolaw06_same_c n r16 r5.2.2.1)).bind fun r17 =>
   bif r17 then ((Go.Fn.style_Then_c n ((0 : Int), ((0 : Int), ((-(1 : Int)), ()))) r5.2.2.1)).bind fun r18 =>
   ((Go.Fn.foliolaw06_same_c n r18 r5.2.2.1)).bind fun r19 =>
   bif r19 then ((Go.Fn.style_Apply_c n r5.2.1 ((0 : Int), ((0 : Int), ((-(1 : Int)), ()))))).bind fun r20 =>
   ((Go.Fn.foliolaw06_look_c n r20 r5.2.1)).bind fun r21 =>
   some r21
   else some false
   else some false
   else some false
   else some false).bind fun r22 =>
 some r22
theorem foliolaw06_StyleAssociates_le (n : Nat) (a0 : (Int) × ((Int) × ((Int) × (Unit)))) (a1 : (Int) × ((Int) × ((Int) × (Unit)))) (a2 : (Int) × ((Int) × ((Int) × (Unit)))) (a3 : (Int) × ((Int) × (Unit))) : Go.Lf.Le (foliolaw06_StyleAssociates_c n a0 a1 a2 a3) (foliolaw06_StyleAssociates a0 a1 a2 a3) := by
  unfold foliolaw06_StyleAssociates_c foliolaw06_StyleAssociates
  repeat' first
    | with_reducible exact Go.Fn.foliolaw06_apart_le n _
    | with_reducible exact Go.Fn.foliolaw06_awake_le n
    | with_reducible exact Go.Fn.foliolaw06_look_le n _ _
    | with_reducible exact Go.Fn.foliolaw06_same_le n _ _
    | with_reducible exact Go.Fn.style_Apply_le n _ _
    | with_reducible exact Go.Fn.style_Then_le n _ _
    | with_reducible refine Go.Lf.Le.bind ?_ (fun _ => ?_)
    | with_reducible refine Go.Lf.Le.cond ?_ ?_
    | with_reducible refine Go.Lf.Le.loop (fun _ => ?_)
    | with_reducible refine Go.Lf.Le.onSum (fun _ => ?_) (fun _ => ?_)
    | with_reducible exact Go.Lf.Le.refl
end Go.Fn
namespace Go.Fn
theorem base_c : (foliolaw06_same_c 9 (1,2,3,()) (1,2,3,())) = some true := by kernel_rfl
theorem awake_c : foliolaw06_awake_c 60 = some true := by kernel_rfl
theorem awake : foliolaw06_awake = some true := foliolaw06_awake_le 60 _ awake_c
end Go.Fn
/-
  From a function's entry to a row's statement: the arguments are opened, nothing old has turned, so all reads as before.
-/
namespace Go.Lf
open Go Go.Eng Go.RowKit Go.ChangeShapes Go.WideShapes Go.ChangeMaps Go.ChangeAt

section
variable {H : Type} {enc : TypeId × Value → H} {P : Program}
def allRead (P : Program) (ts : List TypeId) : Bool := ts.all fun t => P.readableRec t && decide (t < P.types.size)
theorem trodAll_stay (hl : laidOutB P = true) {W W' : World} (hb : Below W.heap.size W W') : ∀ (ts : List TypeId) (vs : List Value) (ds : List (DataW H)) (ps : List MemPlace), allRead P ts = true →
    DataW.TrodAll enc P W 0 (fun _ => true) true ts vs ds ps → (∀ x ∈ ps, x.block < W.heap.size) → DataW.TrodAll enc P W' 0 (fun b => decide (b < W.heap.size)) true ts vs ds ps
  | [], [], [], _, _, h, _ => h
  | [], _ :: _, _, _, _, h, _ => h.elim
  | [], [], _ :: _, _, _, h, _ => h.elim
  | _ :: _, [], _, _, _, h, _ => h.elim
  | _ :: _, _ :: _, [], _, _, h, _ => h.elim
  | t :: ts, v :: vs, d :: ds, ps, hr, h, hlt => by
    obtain ⟨p, q, h1, h2, rfl⟩ := h
    simp only [allRead, List.all_cons, Bool.and_eq_true, decide_eq_true_eq] at hr
    exact ⟨p, q, Below.trod hl hr.1.1 hr.1.2 h1 hb (fun x hx => hlt x (List.mem_append_left _ hx)), trodAll_stay hl hb ts vs ds q hr.2 h2 (fun x hx => hlt x (List.mem_append_right _ hx)), rfl⟩
/-- The law answered true, and nothing old has turned. -/
theorem law_post {f : Func} {s : ChangeSpec} {W W' : World} {args : Array Value} {ds gs : List (DataW H)} {before : List MemPlace} {tb : TypeId} (hl : laidOutB P = true) (hr : allRead P f.params.toList = true) (hv : s.vars = [])
    (hres : f.resultTypes = #[tb]) (htb : P.underlying tb = some .bool) (hW : DataW.Whole enc P f.params.toList s.vars false W args.toList ds gs before)
    (hs : s.fn H (ds ++ gs) = { results := [.lit (.bool true)], args := ds, vars := [] }) (hb : Below W.heap.size W W') : s.post enc P f false true false false W args (.bool true) W' := by
  have hlt : ∀ p ∈ before, p.block < W.heap.size := fun p hp => hW.lt p hp
  have hW0 := hW
  obtain ⟨p, q, hA, hV, hps, _, _⟩ := hW
  rw [hv] at hV
  obtain ⟨rfl, rfl⟩ := trodVars_none hV
  refine ⟨ds, [], before, [], p, [], hW0, ?_, ?_, ?_, hb.frame _, fun h => by cases h⟩
  · rw [hs, hres]
    exact trodAll_mk1 (shut_bool htb true)
  · rw [hs]
    exact trodAll_stay hl hb _ _ _ _ hr hA (fun x hx => hlt x (by rw [hps]; exact List.mem_append_left _ hx))
  · rw [hs, hv]
    rfl
end

/-- The state that a law begins with. -/
def start (W : World) : Cx := ⟨W, [], fun _ => none⟩
def Lasts (W : World) (I : World → Prop) : Prop := ∀ w', Below W.heap.size W w' → I w'
theorem Lasts.and {W : World} {I J : World → Prop} (h : Lasts W I) (k : Lasts W J) : Lasts W (fun w => I w ∧ J w) := fun w' hb => ⟨h w' hb, k w' hb⟩
theorem Lasts.of {W : World} {p : Prop} (h : p) : Lasts W (fun _ => p) := fun _ _ => h
theorem hb_start {W : World} {I : World → Prop} (h : Lasts W I) : Hb (start W) (start W).w0 [] I :=
  ⟨⟨rfl, rfl, rfl, Nat.le_refl _, fun _ _ _ => rfl, fun c hc => absurd hc (by simp [start]), fun c hc => absurd hc (by simp [start]), fun c hc => absurd hc (by simp), fun c hc => absurd hc (by simp), List.Pairwise.nil, fun k m hk => by cases hk⟩,
   fun w' hx => h w' ⟨hx.os, hx.tape, hx.output, hx.size, fun k hk => hx.block k hk rfl (fun c hc => absurd hc (by simp))⟩⟩
theorem cell_lt {W : World} {a : Addr} {v : Value} (h : W.cell? a = some v) : a.block < W.heap.size := by
  rcases Nat.lt_or_ge a.block W.heap.size with h1 | h1
  · exact h1
  · simp [World.cell?, Array.getElem?_eq_none h1] at h
/-- all memory, as it lies -/
def phiOf (W : World) : Phi := fun a => W.cell? a
theorem lasts_agree (W : World) : Lasts W (Agree (phiOf W)) := fun _ hb a _ h => (hb.cell (cell_lt h)).trans h
theorem lasts_var {P : Program} {W : World} {name : String} {cs : Array Value} (h : W.var? P name = some cs) : Lasts W (fun w => w.var? P name = some cs) := fun w' hb => by
  unfold World.var? at *
  cases hg : P.globalNamed name with
  | none => rw [hg] at h; simp at h
  | some g =>
    rw [hg] at h
    simp only [Option.bind_some] at *
    by_cases hlt : g < W.heap.size
    · rw [hb.block g hlt]; exact h
    · rw [Array.getElem?_eq_none (by omega)] at h; simp at h
theorem law_calls {P : Program} {G : World → Prop} {f : Nat} {e : Entry} {z : prodT (e.ps.map Par.ty)} {W : World} {vals : List Value} (he : EntryOk P G f e) (hr : e.rs = [.bool]) (ho : outs e.ps = []) {r : prodT (e.rs ++ outs e.ps)} (hz : e.f z = some r) (ht : unProd (e.rs ++ outs e.ps) r = [⟨.bool, true⟩])
    (ha : ArgsR (phiOf W) e.ps z vals [] []) (hG : Lasts W G) : Calls P f vals.toArray W fun e W' => e = .returned (.bool true) ∧ Below W.heap.size W W' := by
  refine Calls.mono (he.ok z r hz (start W) (phiOf W) vals [] [] ha (hb_start (hG.and (lasts_agree W)))) ?_
  rintro x w' ⟨v, φ', h1, h2, rfl, _, hb, ⟨vs, hv, rfl⟩, _⟩
  rw [ht, hr] at hv
  refine ⟨?_, hb.hp.os, hb.hp.tape, hb.hp.output, hb.hp.size, fun k hk => hb.hp.keep k hk (by simp [start, free])⟩
  cases hv with
  | cons a1 a2 a3 =>
    cases a3
    obtain ⟨rfl, _⟩ := a2
    rfl

/-! ### The arguments -/
section
variable {H : Type} (enc : TypeId × Value → H) (P : Program) (W : World)
def Light (P : Program) (t : TypeId) (d : DataW H) : Prop := ∀ x ∈ d.weights P t, x ≤ reachBytes
end
def rnd (o a : Nat) : Nat := (o + a - 1) / a * a
/-- how a type lies in bytes: its alignment -/
def Ty.aln : Ty → Nat
  | .int k => k.bits / 8
  | .bool => 1
  | .unit => 1
  | .st t => t.aln
  | .pr a b => max a.aln b.aln
  | _ => 8
mutual
def Ty.byt : Ty → Nat
  | .int k => k.bits / 8
  | .bool => 1
  | .str => 16
  | .sl _ => 24
  | .rw _ _ => 24
  | .mr _ _ => 24
  | .dead _ _ => 24
  | .eb _ _ => 16
  | .ptr _ => 8
  | .st t => rnd (t.end_ 0) t.aln
  | _ => 0
/-- the end of a struct's fields from an offset on -/
def Ty.end_ : Ty → Nat → Nat
  | .pr a b, o => b.end_ (rnd o a.aln + a.byt)
  | _, o => o
end
/-- numbers that are of their kinds, lengths that lie in memory -/
def Wf : (t : Ty) → t.den → Prop
  | .int k, x => k.min ≤ x ∧ x ≤ k.max
  | .str, x => List.length x ≤ 140737488351232
  | .sl t, l => List.length l * t.byt ≤ 140737488351232 ∧ ∀ x ∈ (l : List t.den), Wf t x
  | .st t, x => Wf t x
  | .pr a b, x => Wf a x.1 ∧ Wf b x.2
  | _, _ => True
/-- a type's number says this type -/
def opB (P : Program) : Ty → TypeId ⊕ (List Field × Nat) → Bool
  | .int k, .inl t => match P.underlying t with | some (.int k') => decide (k = k') | _ => false
  | .bool, .inl t => match P.underlying t with | some .bool => true | _ => false
  | .str, .inl t => match P.underlying t with | some .string => true | _ => false
  | .sl a, .inl t => match P.underlying t with | some (.slice e) => Nat.beq (P.cellsOf e) a.size && Nat.blt 0 a.size && Nat.beq (P.bytesOf e) a.byt && opB P a (.inl e) | _ => false
  | .st c, .inl t => match P.underlying t with | some (.struct fs) => Nat.beq (P.cellsOf t) c.size && opB P c (.inr (fs.toList, 0)) | _ => false
  | .pr a b, .inr (f :: fs, o) => Nat.beq f.offset o && Nat.beq (P.cellsOf f.type) a.size && opB P a (.inl f.type) && opB P b (.inr (fs, o + a.size))
  | .unit, .inr ([], _) => true
  | _, _ => false

section
variable {H : Type} (enc : TypeId × Value → H) (P : Program) (W : World)
def OpnT (t : TypeId) (a : Ty) : Prop :=
  ∀ fuel cs d ps, DataW.trod enc P W 0 (fun _ => true) true fuel t cs = some (d, ps) → Light P t d → ∃ x : a.den, Rp (phiOf W) a x cs [] ∧ Wf a x
def OpnF (size o : Nat) (fs : List Field) (a : Ty) : Prop :=
  ∀ (n : Nat) (cs : List Value) (xs : List (DataW H × List MemPlace)), cs.length = size → xs.length = fs.length →
    (∀ (i : Nat) (f : Field), fs[i]? = some f → DataW.trod enc P W 0 (fun _ => true) true n f.type ((cs.drop f.offset).take (P.cellsOf f.type)) = xs[i]?) →
    (∀ (i : Nat) (f : Field) y, fs[i]? = some f → xs[i]? = some y → Light P f.type y.1) → o + a.size = size → ∃ x : a.den, Rp (phiOf W) a x (cs.drop o) [] ∧ Wf a x
end
section
variable {H : Type} {enc : TypeId × Value → H} {P : Program} {W : World} {t e : TypeId}
theorem light_slice {es sp : List (DataW H)} (ht : P.underlying t = some (.slice e)) (hl : Light P t (.slice es sp)) : es.length * P.bytesOf e ≤ 140737488351232 ∧ ∀ d ∈ es, Light P e d := by
  unfold Light at hl
  simp only [DataW.weights, ht] at hl
  have h7 : reachBytes = 140737488351232 := by decide
  constructor
  · have h1 := hl _ (List.mem_cons_self ..)
    have h2 : es.length * P.bytesOf e ≤ (es.length + sp.length) * P.bytesOf e := Nat.mul_le_mul_right _ (by omega)
    omega
  · intro d hd x hx
    refine hl x (List.mem_cons_of_mem _ (List.mem_append_left _ ?_))
    clear hl
    induction es with
    | nil => cases hd
    | cons a r ih =>
      simp only [DataW.weightsAll]
      rcases List.mem_cons.1 hd with rfl | h
      · exact List.mem_append_left _ hx
      · exact List.mem_append_right _ (ih h)
theorem light_agg {fs : Array Field} {ds : List (DataW H)} (ht : P.underlying t = some (.struct fs)) (hl : Light P t (.agg ds)) : ∀ (i : Nat) (f : Field) y, fs.toList[i]? = some f → ds[i]? = some y → Light P f.type y := by
  unfold Light at hl
  simp only [DataW.weights, ht] at hl
  have key : ∀ (l : List Field) (ds : List (DataW H)), (∀ x ∈ DataW.weightsEach P (l.map (·.type)) ds, x ≤ reachBytes) → ∀ (i : Nat) (f : Field) y, l[i]? = some f → ds[i]? = some y → Light P f.type y := by
    intro l
    induction l with
    | nil => intro ds _ i f y h; simp at h
    | cons g r ih =>
      intro ds hl i f y hf hy
      cases ds with
      | nil => simp at hy
      | cons d q =>
        simp only [List.map_cons, DataW.weightsEach] at hl
        cases i with
        | zero =>
          simp at hf hy
          subst hf hy
          exact fun x hx => hl x (List.mem_append_left _ hx)
        | succ i => exact ih q (fun x hx => hl x (List.mem_append_right _ hx)) i f y (by simpa using hf) (by simpa using hy)
  exact key fs.toList ds hl
theorem list_choose {α : Type} {p : Nat → α → Prop} : ∀ n, (∀ i, i < n → ∃ x, p i x) → ∃ l : List α, l.length = n ∧ ∀ i x, l[i]? = some x → p i x
  | 0, _ => ⟨[], rfl, fun i x h => by simp at h⟩
  | n + 1, h => by
    obtain ⟨l, h1, h2⟩ := list_choose n (fun i hi => h i (by omega))
    obtain ⟨x, hx⟩ := h n (by omega)
    refine ⟨l ++ [x], by simp [h1], fun i y hy => ?_⟩
    by_cases hi : i < n
    · rw [List.getElem?_append_left (by omega)] at hy; exact h2 i y hy
    · rw [List.getElem?_append_right (by omega)] at hy
      have h3 : i = n := by
        have := (List.getElem?_eq_some_iff.1 hy).1
        simp at this; omega
      subst h3
      rw [h1, Nat.sub_self] at hy
      simp at hy
      subst hy; exact hx
theorem all2_of {α β : Type} {R : α → β → Prop} : ∀ {l : List α} {m : List β}, l.length = m.length → (∀ (i : Nat) x y, l[i]? = some x → m[i]? = some y → R x y) → All2 R l m
  | [], [], _, _ => .nil
  | [], _ :: _, h, _ => by simp at h
  | _ :: _, [], h, _ => by simp at h
  | x :: l, y :: m, h, hR => .cons (hR 0 x y rfl rfl) (all2_of (by simpa using h) fun i a b ha hb => hR (i + 1) a b (by simpa using ha) (by simpa using hb))
/-- cells of a flat list of lists of one length -/
theorem flat_at {s : Nat} (hs : 0 < s) : ∀ (l : List (List Value)), (∀ c ∈ l, c.length = s) → ∀ (j : Nat) (v : Value), l.flatten[j]? = some v → ∃ i k c, j = i * s + k ∧ l[i]? = some c ∧ c[k]? = some v
  | [], _, j, v, h => by simp at h
  | d :: r, hl, j, v, h => by
    have h1 := hl d List.mem_cons_self
    rw [List.flatten_cons] at h
    by_cases hj : j < s
    · rw [List.getElem?_append_left (by omega)] at h
      exact ⟨0, j, d, by omega, rfl, h⟩
    · rw [List.getElem?_append_right (by omega), h1] at h
      obtain ⟨i, k, c, e1, e2, e3⟩ := flat_at hs r (fun c hc => hl c (List.mem_cons_of_mem _ hc)) (j - s) v h
      exact ⟨i + 1, k, c, by rw [Nat.succ_mul]; omega, by simpa using e2, e3⟩

theorem opn_ok : ∀ (a : Ty), (∀ t, opB P a (.inl t) = true → OpnT enc P W t a) ∧ (∀ fs o size, opB P a (.inr (fs, o)) = true → OpnF enc P W size o fs a)
  | .int k => by
    refine ⟨fun t h => ?_, fun fs o size h => by cases fs <;> simp [opB] at h⟩
    · skip
      unfold opB at h
      split at h
      · rename_i k' hu
        have h := of_decide_eq_true h
        subst h
        intro fuel cs d ps ht _
        obtain ⟨n, h1, h2, h3⟩ := DataW.trod_int hu ht
        exact ⟨n, ⟨h1, rfl⟩, by
          have h4 : k.min ≤ n ∧ n ≤ k.max := by simpa [Lit.wf] using h3
          exact h4⟩
      · cases h
  | .bool => by
    refine ⟨fun t h => ?_, fun fs o size h => by cases fs <;> simp [opB] at h⟩
    · skip
      unfold opB at h
      split at h
      · rename_i hu
        intro fuel cs d ps ht _
        cases fuel with
        | zero => simp [DataW.trod] at ht
        | succ n =>
          unfold DataW.trod at ht
          rw [hu] at ht
          split at ht <;> simp_all [Rp, Wf]
      · cases h
  | .str => by
    refine ⟨fun t h => ?_, fun fs o size h => by cases fs <;> simp [opB] at h⟩
    · skip
      unfold opB at h
      split at h
      · rename_i hu
        intro fuel cs d ps ht hl
        obtain ⟨s, h1, h2, h3⟩ := DataW.trod_string hu ht
        injection h2 with h4 h5
        subst h4
        refine ⟨s.data.toList, ⟨by rw [h1], rfl⟩, ?_⟩
        have h6 := hl s.data.toList.length (by simp [DataW.weights])
        have h7 : reachBytes = 140737488351232 := by decide
        show s.data.toList.length ≤ _
        omega
      · cases h
  | .unit => ⟨fun t h => by simp [opB] at h, fun fs o size h => by
      cases fs with
      | cons f r => simp [opB] at h
      | nil =>
        intro n cs xs hs _ _ _ hz
        have : o = cs.length := by rw [hs]; exact hz
        exact ⟨(), ⟨List.drop_eq_nil_of_le (by omega), rfl⟩, trivial⟩⟩
  | .sl a => by
    refine ⟨fun t h => ?_, fun fs o size h => by cases fs <;> simp [opB] at h⟩
    · skip
      unfold opB at h
      split at h
      case h_2 => cases h
      case h_1 e hu =>
      simp only [Bool.and_eq_true] at h
      obtain ⟨⟨⟨h1, h2⟩, h3⟩, h4⟩ := h
      have hn := Nat.eq_of_beq_eq_true h1
      have h0 : 0 < a.size := by simpa [Nat.blt_eq] using h2
      have hb := Nat.eq_of_beq_eq_true h3
      have he := (opn_ok a).1 e h4
      intro fuel cs d ps hd hl
      rcases DataW.trod_slice hu hd with ⟨g1, g2⟩ | ⟨ad, len, cap, elems, rest, m, _, rfl, hx, _, hlc, _, hlen, hel, _, _⟩
      · exact ⟨([] : List a.den), ⟨none, 0, [], g1, Nat.le_refl _, .nil, fun hn => absurd hn (by simp), rfl⟩, by simp [Wf]⟩
      · injection hx with hx1 hx2
        subst hx1
        obtain ⟨hl1, hl2⟩ := light_slice hu hl
        rw [List.length_map, hlen, hb] at hl1
        have each : ∀ i, i < len → ∃ q : a.den × List Value, Rp (phiOf W) a q.1 q.2 [] ∧ Wf a q.1 ∧ ∀ k u, q.2[k]? = some u → W.cell? (ad.add (i * a.size + k)) = some u := by
          intro i hi
          obtain ⟨y, hy⟩ : ∃ y, elems[i]? = some y := ⟨_, List.getElem?_eq_getElem (by omega)⟩
          have h3 := hel i hi
          rw [hy, hn, Option.bind_eq_some_iff] at h3
          obtain ⟨cs', h4, h5⟩ := h3
          obtain ⟨y1, y2⟩ := y
          obtain ⟨x, h6, h7⟩ := he m cs' y1 y2 h5 (hl2 y1 (List.mem_map.2 ⟨(y1, y2), List.mem_of_getElem? hy, rfl⟩))
          obtain ⟨_, h8, h9⟩ := World.cells?_some h4
          refine ⟨(x, cs'), h6, h7, fun k u hu => ?_⟩
          have hk : k < a.size := by rw [← h6.len]; exact (List.getElem?_eq_some_iff.1 hu).1
          have := h9 k hk
          rw [hu, add_add'] at this
          exact this
        obtain ⟨l, h10, h11⟩ := list_choose len each
        have hll : (l.map (·.1)).length = len := by rw [List.length_map, h10]
        have hall : All2 (fun x cs => Rp (phiOf W) a x cs []) (l.map (·.1)) (l.map (·.2)) := all2_of (by simp) fun i x y hx hy => by
          rw [List.getElem?_map] at hx hy
          cases hq : l[i]? with
          | none => rw [hq] at hx; cases hx
          | some q =>
            rw [hq] at hx hy
            simp only [Option.map_some, Option.some.injEq] at hx hy
            subst hx hy
            exact (h11 i q hq).1
        refine ⟨l.map (·.1), ⟨some ad, cap, l.map (·.2), ?_, ?_, hall, fun _ => ⟨ad, rfl, fun j v hv => ?_⟩, rfl⟩, ?_, fun x hx => ?_⟩
        · show [Value.slice (some ad) len cap] = [Value.slice (some ad) (l.map (·.1)).length cap]
          rw [hll]
        · show (l.map (·.1)).length ≤ cap
          omega
        · obtain ⟨i, k, c, rfl, e2, e3⟩ := flat_at h0 (l.map (·.2)) (fun c hc => by
            obtain ⟨q, hq, rfl⟩ := List.mem_map.1 hc
            obtain ⟨i, hi⟩ := List.getElem?_of_mem hq
            exact (h11 i q hi).1.len) j v hv
          rw [List.getElem?_map] at e2
          cases hq : l[i]? with
          | none => rw [hq] at e2; cases e2
          | some q =>
            rw [hq] at e2
            simp only [Option.map_some, Option.some.injEq] at e2
            subst e2
            exact (h11 i q hq).2.2 k v e3
        · show (l.map (·.1)).length * a.byt ≤ _
          rw [hll]; exact hl1
        · obtain ⟨q, hq, rfl⟩ := List.mem_map.1 hx
          obtain ⟨i, hi⟩ := List.getElem?_of_mem hq
          exact (h11 i q hi).2.1
  | .st c => by
    refine ⟨fun t h => ?_, fun fs o size h => by cases fs <;> simp [opB] at h⟩
    · skip
      unfold opB at h
      split at h
      case h_2 => cases h
      case h_1 fs hu =>
      simp only [Bool.and_eq_true] at h
      have hs := Nat.eq_of_beq_eq_true h.1
      have hF := (opn_ok c).2 fs.toList 0 c.size h.2
      intro fuel cs d ps hd hl
      obtain ⟨xs, n, _, hx, hcl, hxl, hf⟩ := DataW.trod_struct hu hd
      injection hx with hx1 hx2
      subst hx1
      have hla := light_agg hu hl
      obtain ⟨x, h1, h2⟩ := hF n cs xs (by rw [hcl, hs]) (by simpa using hxl) (fun i f hi => hf i f (by simpa using hi)) (fun i f y hi hy => hla i f y.1 hi (by simp [hy])) (by simp)
      have h1 : Rp (phiOf W) c x cs [] := by simpa using h1
      exact ⟨x, h1, h2⟩
  | .pr a b => ⟨fun t h => by simp [opB] at h, fun fs o size h => by
      cases fs with
      | nil => simp [opB] at h
      | cons f fs =>
        unfold opB at h
        simp only [Bool.and_eq_true] at h
        obtain ⟨⟨⟨h1, h2⟩, h3⟩, h4⟩ := h
        have ho := Nat.eq_of_beq_eq_true h1
        have hm := Nat.eq_of_beq_eq_true h2
        have ha := (opn_ok a).1 _ h3
        have hb := (opn_ok b).2 fs (o + a.size) size h4
        intro n cs xs hs hxl hx hl hz
        cases xs with
        | nil => simp at hxl
        | cons y ys =>
          have h3 := hx 0 f rfl
          rw [ho, hm] at h3
          obtain ⟨y1, y2⟩ := y
          obtain ⟨x, g1, g2⟩ := ha n _ y1 y2 h3 (hl 0 f (y1, y2) rfl rfl)
          obtain ⟨z, g3, g4⟩ := hb n cs ys hs (by simpa using hxl) (fun i g hg => by simpa using hx (i + 1) g (by simpa using hg)) (fun i g y hg hy => hl (i + 1) g y (by simpa using hg) (by simpa using hy)) (by rw [← hz]; simp [Ty.size]; omega)
          refine ⟨(x, z), ⟨_, _, [], [], ?_, rfl, g1, g3⟩, g2, g4⟩
          rw [← List.drop_drop, List.take_append_drop]⟩
  | .dead _ _ => ⟨fun t h => by simp [opB] at h, fun fs o size h => by cases fs <;> simp [opB] at h⟩
  | .rw _ _ => ⟨fun t h => by simp [opB] at h, fun fs o size h => by cases fs <;> simp [opB] at h⟩
  | .mr _ _ => ⟨fun t h => by simp [opB] at h, fun fs o size h => by cases fs <;> simp [opB] at h⟩
  | .ptr _ => ⟨fun t h => by simp [opB] at h, fun fs o size h => by cases fs <;> simp [opB] at h⟩
  | .eb _ _ => ⟨fun t h => by simp [opB] at h, fun fs o size h => by cases fs <;> simp [opB] at h⟩

theorem light_arg {ts : List TypeId} {ds : List (DataW H)} {j : Nat} {t : TypeId} {d : DataW H} (hz : (DataW.weightsEach P ts ds).all (· ≤ reachBytes) = true) (ht : ts[j]? = some t) (hd : ds[j]? = some d) : Light P t d := by
  intro x hx
  have h1 : ∀ y ∈ DataW.weightsEach P ts ds, y ≤ reachBytes := fun y hy => by simpa using List.all_eq_true.1 hz y hy
  clear hz
  induction ts generalizing ds j with
  | nil => simp at ht
  | cons a r ih =>
    cases ds with
    | nil => simp at hd
    | cons b q =>
      simp only [DataW.weightsEach] at h1
      cases j with
      | zero =>
        simp at ht hd
        subst ht hd
        exact h1 x (List.mem_append_left _ hx)
      | succ j => exact ih (by simpa using ht) (by simpa using hd) (fun y hy => h1 y (List.mem_append_right _ hy))
/-- an argument, opened -/
theorem open_arg {a : Ty} {v : Value} {d : DataW H} {ps : List MemPlace} {base : Nat} (ha : opB P a (.inl t) = true) (hv : Value.okWide P W .any base t v) (h : DataW.Trod enc P W 0 (fun _ => true) true t v d ps) (hl : Light P t d) :
    ∃ (x : a.den) (cs : List Value), a.top = true ∧ v = sv a cs ∧ Rp (phiOf W) a x cs [] ∧ Wf a x := by
  obtain ⟨fuel, hf⟩ := h
  obtain ⟨x, h1, h2⟩ := (opn_ok (enc := enc) (W := W) a).1 t ha fuel _ d ps hf hl
  refine ⟨x, v.cells.toList, ?_, ?_, h1, h2⟩
  · cases a <;> first | rfl | (simp [opB] at ha; done)
  · cases a <;> first | (simp [opB] at ha; done) | skip
    all_goals unfold opB at ha
    all_goals split at ha <;> first | (cases ha; done) | skip
    all_goals rename_i hu
    · obtain ⟨n, rfl⟩ := okWide_int hu hv; rfl
    · obtain ⟨n, rfl⟩ := okWide_bool hu hv; rfl
    · obtain ⟨n, rfl⟩ := okWide_string hu hv; rfl
    · obtain ⟨A, n, c, rfl⟩ := okWide_slice hu hv; rfl
    · obtain ⟨cs, rfl, _⟩ := okWide_struct hu hv; rfl
end
end Go.Lf
/- Chapter 6, plainly: changes. -/
namespace Go.Fn
open Go Go.Lf

/-- a word as a number -/
def num (x : BitVec 64) : Int := IntKind.i64.wrap (x.toNat : Int)
theorem num_inj (x : BitVec 64) : BitVec.ofInt 64 (num x) = x := by
  apply BitVec.eq_of_toNat_eq
  have h := x.isLt
  simp only [num, IntKind.wrap, BitVec.toNat_ofInt]
  simp [IntKind.bits, IntKind.signed]
  omega
theorem num_of {n : Int} (h : IntKind.i64.min ≤ n ∧ n ≤ IntKind.i64.max) : num (BitVec.ofInt 64 n) = n := by
  have e1 : IntKind.i64.min = -9223372036854775808 := by decide
  have e2 : IntKind.i64.max = 9223372036854775807 := by decide
  simp only [num, IntKind.wrap, BitVec.toNat_ofInt]
  simp [IntKind.bits, IntKind.signed]
  omega
theorem bits_or (a b : Int) : Go.Lf.bits .or .i64 a b = num (BitVec.ofInt 64 a ||| BitVec.ofInt 64 b) := rfl
theorem bits_and (a b : Int) : Go.Lf.bits .and .i64 a b = num (BitVec.ofInt 64 a &&& BitVec.ofInt 64 b) := rfl
theorem bits_andNot (a b : Int) : Go.Lf.bits .andNot .i64 a b = num (BitVec.ofInt 64 a &&& ~~~ BitVec.ofInt 64 b) := rfl

abbrev Chg := Int × Int × Int × Unit
abbrev Lok := Int × Int × Unit
def thenS (a b : Chg) : Chg := (num ((BitVec.ofInt 64 a.1 &&& ~~~ BitVec.ofInt 64 b.2.1) ||| BitVec.ofInt 64 b.1), num ((BitVec.ofInt 64 a.2.1 &&& ~~~ BitVec.ofInt 64 b.1) ||| BitVec.ofInt 64 b.2.1), if b.2.2.1 = -1 then a.2.2.1 else b.2.2.1, ())
def applyS (l : Lok) (c : Chg) : Lok := (num ((BitVec.ofInt 64 l.1 ||| BitVec.ofInt 64 c.1) &&& ~~~ BitVec.ofInt 64 c.2.1), if c.2.2.1 = -1 then l.2.1 else c.2.2.1, ())
theorem then_eq (a b : Chg) : style_Then a b = some (thenS a b) := by
  unfold style_Then thenS
  by_cases h : b.2.2.1 = -1 <;> simp [h, bits_or, bits_andNot, num_inj]
theorem rthen_eq (a b : Chg) : folioref06_Then a b = some (thenS a b) := by
  unfold folioref06_Then thenS
  by_cases h : b.2.2.1 = -1 <;> simp [h, bits_or, bits_andNot, num_inj]
theorem apply_eq (a : Lok) (b : Chg) : style_Apply a b = some (applyS a b) := by
  unfold style_Apply applyS
  by_cases h : b.2.2.1 = -1 <;> simp [h, bits_or, bits_andNot, num_inj]
theorem rapply_eq (a : Lok) (b : Chg) : folioref06_Apply a b = some (applyS a b) := by
  unfold folioref06_Apply applyS
  by_cases h : b.2.2.1 = -1 <;> simp [h, bits_or, bits_andNot, num_inj]
theorem same_eq (a b : Chg) : foliolaw06_same a b = some (decide (a = b)) := by
  obtain ⟨a1, a2, a3, ⟨⟩⟩ := a
  obtain ⟨b1, b2, b3, ⟨⟩⟩ := b
  unfold foliolaw06_same
  by_cases h1 : a1 = b1 <;> by_cases h2 : a2 = b2 <;> simp [h1, h2]
theorem look_eq (a b : Lok) : foliolaw06_look a b = some (decide (a = b)) := by
  obtain ⟨a1, a2, ⟨⟩⟩ := a
  obtain ⟨b1, b2, ⟨⟩⟩ := b
  unfold foliolaw06_look
  by_cases h1 : a1 = b1 <;> simp [h1]
theorem changes_law (a b : Chg) (l : Lok) : foliolaw06_StyleChanges a b l = some true := by
  unfold foliolaw06_StyleChanges
  simp [then_eq, rthen_eq, apply_eq, rapply_eq, same_eq, look_eq, awake]

def Fits (n : Int) : Prop := IntKind.i64.min ≤ n ∧ n ≤ IntKind.i64.max
theorem bv_assoc (a b c d e f : BitVec 64) (h : (d &&& c) = 0#64) : ((a &&& ~~~d ||| c) &&& ~~~f ||| e) = (a &&& ~~~(d &&& ~~~e ||| f) ||| (c &&& ~~~f ||| e)) := by
  apply BitVec.eq_of_getLsbD_eq
  intro i hi
  have hi2 := congrArg (fun x : BitVec 64 => x.getLsbD i) h
  simp only [BitVec.getLsbD_or, BitVec.getLsbD_and, BitVec.getLsbD_not, hi, decide_true, Bool.true_and, BitVec.getLsbD_zero] at hi2 ⊢
  generalize a.getLsbD i = a at *
  generalize c.getLsbD i = c at *
  generalize d.getLsbD i = d at *
  generalize e.getLsbD i = e at *
  generalize f.getLsbD i = f at *
  revert hi2
  cases a <;> cases c <;> cases d <;> cases e <;> cases f <;> decide
theorem bv_apply (l a b c d : BitVec 64) : (((l ||| a) &&& ~~~b ||| c) &&& ~~~d) = ((l ||| (a &&& ~~~d ||| c)) &&& ~~~(b &&& ~~~c ||| d)) := by
  apply BitVec.eq_of_getLsbD_eq
  intro i hi
  simp only [BitVec.getLsbD_or, BitVec.getLsbD_and, BitVec.getLsbD_not, hi, decide_true, Bool.true_and]
  generalize l.getLsbD i = l
  generalize a.getLsbD i = a
  generalize b.getLsbD i = b
  generalize c.getLsbD i = c
  generalize d.getLsbD i = d
  cases l <;> cases a <;> cases b <;> cases c <;> cases d <;> decide
theorem and_ones (x : BitVec 64) : x &&& 18446744073709551615#64 = x := by
  rw [show 18446744073709551615#64 = BitVec.allOnes 64 by decide]
  exact BitVec.and_allOnes
theorem num_zero (x : BitVec 64) : num x = 0 ↔ x = 0#64 := by
  constructor
  · intro h
    have := num_inj x
    rw [h] at this
    rw [← this]; decide
  · rintro rfl; decide
theorem assoc_law (a b c : Chg) (l : Lok) (ha : Fits a.1 ∧ Fits a.2.1) (hl : Fits l.1) : foliolaw06_StyleAssociates a b c l = some true := by
  have hz : BitVec.ofInt 64 0 = 0#64 := by decide
  have e1 : applyS (applyS l a) b = applyS l (thenS a b) := by
    unfold applyS thenS
    simp only [num_inj, bv_apply]
    by_cases h1 : a.2.2.1 = -1 <;> by_cases h2 : b.2.2.1 = -1 <;> simp [h1, h2]
  have e3 : thenS a (0, 0, -1, ()) = a := by
    obtain ⟨a1, a2, a3, ⟨⟩⟩ := a
    unfold thenS
    simp [and_ones, num_of ha.1, num_of ha.2]
  have e4 : thenS (0, 0, -1, ()) a = a := by
    obtain ⟨a1, a2, a3, ⟨⟩⟩ := a
    unfold thenS
    by_cases h1 : a3 = -1 <;> simp [num_of ha.1, num_of ha.2, h1]
  have e5 : applyS l (0, 0, -1, ()) = l := by
    obtain ⟨l1, l2, ⟨⟩⟩ := l
    unfold applyS
    have h2 : ~~~ (0#64) = BitVec.allOnes 64 := by decide
    simp [and_ones, num_of hl]
  have hap : ∀ x : Chg, foliolaw06_apart x = some (decide ((BitVec.ofInt 64 x.1 &&& BitVec.ofInt 64 x.2.1) = 0#64)) := fun x => by
    unfold foliolaw06_apart
    rw [bits_and]
    congr 1
    exact decide_eq_decide.2 (num_zero _)
  unfold foliolaw06_StyleAssociates
  simp only [awake, hap]
  by_cases ha0 : (BitVec.ofInt 64 a.1 &&& BitVec.ofInt 64 a.2.1) = 0#64 <;> by_cases hb0 : (BitVec.ofInt 64 b.1 &&& BitVec.ofInt 64 b.2.1) = 0#64 <;> by_cases hc0 : (BitVec.ofInt 64 c.1 &&& BitVec.ofInt 64 c.2.1) = 0#64 <;> simp [ha0, hb0, hc0]
  have e2 : thenS (thenS a b) c = thenS a (thenS b c) := by
    unfold thenS
    simp only [num_inj]
    rw [bv_assoc (BitVec.ofInt 64 a.1) (BitVec.ofInt 64 a.2.1) (BitVec.ofInt 64 b.1) (BitVec.ofInt 64 b.2.1) (BitVec.ofInt 64 c.1) (BitVec.ofInt 64 c.2.1) (by rw [BitVec.and_comm]; exact hb0), bv_assoc (BitVec.ofInt 64 a.2.1) (BitVec.ofInt 64 a.1) (BitVec.ofInt 64 b.2.1) (BitVec.ofInt 64 b.1) (BitVec.ofInt 64 c.2.1) (BitVec.ofInt 64 c.1) hb0]
    by_cases h1 : b.2.2.1 = -1 <;> by_cases h2 : c.2.2.1 = -1 <;> simp [h1, h2]
  simp [then_eq, apply_eq, same_eq, look_eq, e1, e2, e3, e4, e5]
end Go.Fn
open Go Go.Lf
set_option maxRecDepth 10000
namespace Go.Fn
def Tys2 : List (Nat × Go.Lf.TyI) := [(2, ⟨(.int .i64), 0, 0⟩),
 (3, ⟨(.int .i64), 0, 0⟩),
 (4, ⟨.bool, 0, 0⟩),
 (5, ⟨(.int .u8), 0, 0⟩),
 (6, ⟨(.int .u8), 0, 0⟩),
 (7, ⟨(.st (.pr (.int .i64) (.pr (.int .i64) (.pr .bool (.pr (.int .u8) .unit))))), 0, 0⟩),
 (8, ⟨(.st (.pr (.int .i64) (.pr (.int .i64) (.pr .bool (.pr (.int .u8) .unit))))), 0, 0⟩),
 (9, ⟨.str, 0, 0⟩),
 (10, ⟨.str, 0, 0⟩),
 (11, ⟨.str, 0, 0⟩),
 (12, ⟨(.int .u64), 0, 0⟩),
 (13, ⟨(.st (.pr .str (.pr (.int .u64) .unit))), 0, 0⟩),
 (14, ⟨(.st (.pr .str (.pr (.int .u64) .unit))), 0, 0⟩),
 (21, ⟨(.int .i32), 0, 0⟩),
 (22, ⟨(.sl (.st (.pr .str (.pr .str (.pr (.st (.pr (.int .i64) (.pr (.int .i64) (.pr (.int .i64) .unit)))) .unit))))), 29, 56⟩),
 (26, ⟨(.st (.pr (.int .i64) (.pr (.int .i64) (.pr (.int .i64) .unit)))), 0, 0⟩),
 (27, ⟨(.st (.pr (.int .i64) (.pr (.int .i64) (.pr (.int .i64) .unit)))), 0, 0⟩),
 (28, ⟨(.st (.pr .str (.pr .str (.pr (.st (.pr (.int .i64) (.pr (.int .i64) (.pr (.int .i64) .unit)))) .unit)))), 0, 0⟩),
 (29, ⟨(.st (.pr .str (.pr .str (.pr (.st (.pr (.int .i64) (.pr (.int .i64) (.pr (.int .i64) .unit)))) .unit)))), 0, 0⟩),
 (30, ⟨(.int .i64), 0, 0⟩),
 (39, ⟨(.st (.pr (.int .i64) (.pr (.int .i64) .unit))), 0, 0⟩),
 (40, ⟨(.st (.pr (.int .i64) (.pr (.int .i64) .unit))), 0, 0⟩),
 (46, ⟨(.sl .str), 9, 16⟩),
 (68, ⟨(.sl (.int .i64)), 3, 8⟩),
 (89, ⟨(.st (.pr .str (.pr .str .unit))), 9, 2⟩),
 (90, ⟨(.st (.pr (.int .i64) (.pr (.int .i64) .unit))), 3, 2⟩),
 (94, ⟨(.sl (.st (.pr (.int .i64) (.pr (.int .i64) .unit)))), 96, 16⟩),
 (95, ⟨(.st (.pr (.int .i64) (.pr (.int .i64) .unit))), 0, 0⟩),
 (96, ⟨(.st (.pr (.int .i64) (.pr (.int .i64) .unit))), 0, 0⟩),
 (98, ⟨(.eb 111 .unit), 0, 0⟩),
 (101, ⟨(.int .u64), 0, 0⟩),
 (107, ⟨(.int .i64), 0, 0⟩),
 (108, ⟨(.sl (.int .u8)), 5, 1⟩),
 (114, ⟨(.st (.pr (.int .u8) (.pr (.int .u8) (.pr (.int .u8) (.pr (.int .u8) (.pr (.int .u8) (.pr (.int .u8) (.pr (.int .u8) (.pr (.int .u8) (.pr (.int .u8) (.pr (.int .u8) (.pr (.int .u8) (.pr (.int .u8) (.pr (.int .u8) (.pr (.int .u8) (.pr (.int .u8) (.pr (.int .u8) (.pr (.int .u8) (.pr (.int .u8) (.pr (.int .u8) (.pr (.int .u8) (.pr (.int .u8) (.pr (.int .u8) (.pr (.int .u8) (.pr (.int .u8) .unit))))))))))))))))))))))))), 5, 24⟩),
 (115, ⟨(.int .u64), 0, 0⟩),
 (120, ⟨(.int .u32), 0, 0⟩),
 (126, ⟨(.st (.pr .str (.pr .str (.pr (.eb 111 .unit) .unit)))), 0, 0⟩),
 (127, ⟨(.st (.pr .str (.pr .str (.pr (.eb 111 .unit) .unit)))), 0, 0⟩),
 (130, ⟨(.st (.pr (.int .u64) (.pr (.int .u64) (.pr (.int .u64) (.pr (.int .u64) (.pr (.int .u64) (.pr (.int .u64) (.pr (.int .u64) (.pr (.int .u64) (.pr (.int .u64) (.pr (.int .u64) (.pr (.int .u64) (.pr (.int .u64) (.pr (.int .u64) (.pr (.int .u64) (.pr (.int .u64) (.pr (.int .u64) (.pr (.int .u64) (.pr (.int .u64) (.pr (.int .u64) (.pr (.int .u64) .unit))))))))))))))))))))), 115, 20⟩),
 (137, ⟨(.st (.pr .str .unit)), 0, 0⟩),
 (138, ⟨(.st (.pr .str .unit)), 0, 0⟩)]
theorem Tys2_ok : ∀ id i, Go.Lf.look Tys2 id = some i → Go.Lf.TyOk Go.Proofs.Tryd.prog id i := Go.Lf.tysB_ok (by kernel_rfl)
noncomputable def folioref06_wordsCtx : Go.Lf.Ctx := ⟨35, Tys2, [], [2, 3, 25, 34], [], [(2, (.rw 9 .str)), (3, (.rw 9 .str)), (25, (.rw 9 .str)), (34, (.rw 9 .str))]⟩
noncomputable def folioref06_wordsCode : Go.Code := (Go.Proofs.Tryd.f51.body).getD .skip
def folioref06_wordsAnn : Go.Lf.Ann := (.seq .no (.seq .no (.seq .no (.seq (.seq .no (.loop ⟨[0], [], [(5, (.int .i64)), (4, (.int .i64)), (3, (.rw 9 .str))], []⟩ (.one (.ext 0) ⟨[], [], [(3, (.rw 9 .str))], []⟩) (.seq .no (.seq (.join (.one .nrm ⟨[0, 5], [], [(4, (.int .i64)), (3, (.rw 9 .str))], []⟩) (.seq (.seq (.join (.one .nrm ⟨[4, 0, 5], [], [(21, .bool), (3, (.rw 9 .str))], []⟩) .no) .no) (.seq (.join (.one .nrm ⟨[0, 5], [], [(3, (.rw 9 .str))], []⟩) .no) .no))) .no)))) .no))))
noncomputable def folioref06_words (a0 : List (UInt8)) : Option (List (List (UInt8))) :=
 (Go.Lf.loopC (σ := (Int) × ((Int) × (List (List (UInt8))))) (κ := List (List (UInt8))) (fun z1 =>
     bif (decide (z1.1 ≤ (((List.length a0) : Nat) : Int))) then ((bif (decide (z1.1 < (((List.length a0) : Nat) : Int))) then ((Go.Lf.idx a0 z1.1)).bind fun r2 =>
         some ((decide (((((UInt8.toNat r2) : Nat) : Int) : Int) ≠ (32 : Int))), z1.2.2)
         else some (false, z1.2.2)).bind fun r3 =>
       bif r3.1 then some (z1.2.1, r3.2)
       else (bif (decide (z1.2.1 < z1.1)) then ((Go.Lf.sub a0 z1.2.1 z1.1)).bind fun r4 =>
         ((Go.Lf.app (16 : Nat) r3.2 (r4 :: ([] : List (List (UInt8)))))).bind fun r5 =>
         some r5
         else some r3.2).bind fun r6 =>
       some ((Go.IntKind.wrap .i64 (z1.1 + (1 : Int))), r6)).bind fun r7 =>
     some (.inl ((Go.IntKind.wrap .i64 (z1.1 + (1 : Int))), (r7.1, r7.2)))
     else some (.inr z1.2.2)) ((0 : Int), ((0 : Int), ([] : List (List (UInt8))))) : Option (List (List (UInt8)))).bind fun r8 =>
 some r8
theorem folioref06_words_eq (a0 : List (UInt8)) : Go.Lf.fnE folioref06_wordsCtx folioref06_wordsCode folioref06_wordsAnn [.val .str] [(.rw 9 .str)] [.tmp 2] (a0) = folioref06_words a0 := by kernel_rfl
noncomputable def folioref06_wordsEnt : Nat × Go.Lf.Entry := (51, ⟨[.val .str], [(.rw 9 .str)], fun z => folioref06_words z⟩)
theorem folioref06_words_ok : Go.Lf.EntryOk Go.Proofs.Tryd.prog GG 51 folioref06_wordsEnt.2 :=
  Go.Lf.fn_ok (c := folioref06_wordsCtx) (code := folioref06_wordsCode) (an := folioref06_wordsAnn) (slots := [.tmp 2]) (fn := Go.Proofs.Tryd.f51) (by kernel_rfl) ⟨Tys2_ok, Go.Lf.FnsOk.look .nil⟩ (by kernel_rfl) (by kernel_rfl) (by kernel_rfl) (by kernel_rfl) (by kernel_rfl) (Nat.le_of_ble_eq_true rfl) (by simp [Go.Lf.Ty.top]) (by simp [Go.Lf.Ty.top]) fun z r h => (folioref06_words_eq z).trans h
noncomputable def folioref06_NoneCtx : Go.Lf.Ctx := ⟨2, Tys2, [], [], [], []⟩
noncomputable def folioref06_NoneCode : Go.Code := (Go.Proofs.Tryd.f52.body).getD .skip
def folioref06_NoneAnn : Go.Lf.Ann := .no
noncomputable def folioref06_None  : Option ((Int) × ((Int) × ((Int) × (Unit)))) :=
 some ((0 : Int), ((0 : Int), ((-(1 : Int)), ())))
theorem folioref06_None_eq  : Go.Lf.fnE folioref06_NoneCtx folioref06_NoneCode folioref06_NoneAnn [] [(.st (.pr (.int .i64) (.pr (.int .i64) (.pr (.int .i64) .unit))))] [.cell 0 27] () = folioref06_None  := by kernel_rfl
noncomputable def folioref06_NoneEnt : Nat × Go.Lf.Entry := (52, ⟨[], [(.st (.pr (.int .i64) (.pr (.int .i64) (.pr (.int .i64) .unit))))], fun _ => folioref06_None ⟩)
theorem folioref06_None_ok : Go.Lf.EntryOk Go.Proofs.Tryd.prog GG 52 folioref06_NoneEnt.2 :=
  Go.Lf.fn_ok (c := folioref06_NoneCtx) (code := folioref06_NoneCode) (an := folioref06_NoneAnn) (slots := [.cell 0 27]) (fn := Go.Proofs.Tryd.f52) (by kernel_rfl) ⟨Tys2_ok, Go.Lf.FnsOk.look .nil⟩ (by kernel_rfl) (by kernel_rfl) (by kernel_rfl) (by kernel_rfl) (by kernel_rfl) (Nat.le_of_ble_eq_true rfl) (by simp [Go.Lf.Ty.top]) (by simp [Go.Lf.Ty.top]) fun z r h => (folioref06_None_eq ).trans h
noncomputable def folioref06_NameCtx : Go.Lf.Ctx := ⟨28, Tys2, [], [], [], []⟩
noncomputable def folioref06_NameCode : Go.Code := (Go.Proofs.Tryd.f39.body).getD .skip
def folioref06_NameAnn : Go.Lf.Ann := (.seq .no (.seq (.seq .no (.loop ⟨[0], [], [(3, (.int .i64))], []⟩ (.more (.ext 0) ⟨[0], [], [], []⟩ (.one .ret ⟨[], [], [(2, .bool)], []⟩)) (.seq .no (.seq (.seq (.join (.one .nrm ⟨[0, 3], [], [(19, .bool)], []⟩) .no) .no) .no)))) (.seq (.join (.one .nrm ⟨[], [], [(2, .bool)], []⟩) .no) .no)))
noncomputable def folioref06_Name (a0 : List (UInt8)) : Option (Bool) :=
 (Go.Lf.loopC (σ := Int) (κ := (Unit) ⊕ (Bool)) (fun z1 =>
     bif (decide (z1 < (((List.length a0) : Nat) : Int))) then (((Go.Lf.idx a0 z1)).bind fun r2 =>
       bif (!(decide ((((UInt8.toNat r2) : Nat) : Int) < (97 : Int)))) then ((Go.Lf.idx a0 z1)).bind fun r3 =>
       some (decide ((122 : Int) < (((UInt8.toNat r3) : Nat) : Int)))
       else some true).bind fun r4 =>
     bif r4 then some (.inr (.inr false))
     else some (.inl (Go.IntKind.wrap .i64 (z1 + (1 : Int))))
     else some (.inr (.inl ()))) (0 : Int) : Option ((Unit) ⊕ (Bool))).bind fun r5 =>
 Go.Lf.onSum r5 (fun a6 =>
 (bif (decide ((1 : Int) ≤ (((List.length a0) : Nat) : Int))) then some (decide ((((List.length a0) : Nat) : Int) ≤ (12 : Int)))
   else some false).bind fun r7 =>
 some r7) (fun b8 =>
 some b8)
theorem folioref06_Name_eq (a0 : List (UInt8)) : Go.Lf.fnE folioref06_NameCtx folioref06_NameCode folioref06_NameAnn [.val .str] [.bool] [.tmp 2] (a0) = folioref06_Name a0 := by kernel_rfl
noncomputable def folioref06_NameEnt : Nat × Go.Lf.Entry := (39, ⟨[.val .str], [.bool], fun z => folioref06_Name z⟩)
theorem folioref06_Name_ok : Go.Lf.EntryOk Go.Proofs.Tryd.prog GG 39 folioref06_NameEnt.2 :=
  Go.Lf.fn_ok (c := folioref06_NameCtx) (code := folioref06_NameCode) (an := folioref06_NameAnn) (slots := [.tmp 2]) (fn := Go.Proofs.Tryd.f39) (by kernel_rfl) ⟨Tys2_ok, Go.Lf.FnsOk.look .nil⟩ (by kernel_rfl) (by kernel_rfl) (by kernel_rfl) (by kernel_rfl) (by kernel_rfl) (Nat.le_of_ble_eq_true rfl) (by simp [Go.Lf.Ty.top]) (by simp [Go.Lf.Ty.top]) fun z r h => (folioref06_Name_eq z).trans h
noncomputable def folioref06_namesCtx : Go.Lf.Ctx := ⟨37, Tys2, [folioref06_NameEnt], [], [], []⟩
noncomputable def folioref06_namesCode : Go.Code := (Go.Proofs.Tryd.f53.body).getD .skip
def folioref06_namesAnn : Go.Lf.Ann := (.seq .no (.seq (.seq .no (.loop ⟨[0], [], [(5, (.int .i64))], []⟩ (.more (.ext 0) ⟨[0], [], [], []⟩ (.one .ret ⟨[], [], [(2, .str), (3, .str), (4, .bool)], []⟩)) (.seq .no (.seq (.seq .no (.cnd (.seq (.join (.one .nrm ⟨[], [], [(2, .str), (3, .str), (4, .bool)], []⟩) (.draw 21)) .no) .no)) .no)))) .no))
noncomputable def folioref06_names (a0 : List (UInt8)) : Option ((List (UInt8)) × ((List (UInt8)) × (Bool))) :=
 (Go.Lf.loopC (σ := Int) (κ := (Unit) ⊕ ((List (UInt8)) × ((List (UInt8)) × (Bool)))) (fun z1 =>
     bif (decide (z1 < (((List.length a0) : Nat) : Int))) then ((Go.Lf.idx a0 z1)).bind fun r2 =>
     bif (decide (((((UInt8.toNat r2) : Nat) : Int) : Int) = (58 : Int))) then (((Go.Lf.sub a0 (0 : Int) z1)).bind fun r3 =>
       ((Go.Lf.sub a0 (Go.IntKind.wrap .i64 (z1 + (1 : Int))) (((List.length a0) : Nat) : Int))).bind fun r4 =>
       ((Go.Lf.sub a0 (0 : Int) z1)).bind fun r5 =>
       ((Go.Fn.folioref06_Name r5)).bind fun r6 =>
       bif r6 then ((Go.Lf.sub a0 (Go.IntKind.wrap .i64 (z1 + (1 : Int))) (((List.length a0) : Nat) : Int))).bind fun r7 =>
       ((Go.Fn.folioref06_Name r7)).bind fun r8 =>
       some (r3, (r4, r8))
       else some (r3, (r4, false))).bind fun r9 =>
     some (.inr (.inr (r9.1, (r9.2.1, r9.2.2))))
     else some (.inl (Go.IntKind.wrap .i64 (z1 + (1 : Int))))
     else some (.inr (.inl ()))) (0 : Int) : Option ((Unit) ⊕ ((List (UInt8)) × ((List (UInt8)) × (Bool))))).bind fun r10 =>
 Go.Lf.onSum r10 (fun a11 =>
 ((Go.Fn.folioref06_Name a0)).bind fun r12 =>
 some (a0, (([] : List (UInt8)), r12))) (fun b13 =>
 some (b13.1, (b13.2.1, b13.2.2)))
theorem folioref06_names_eq (a0 : List (UInt8)) : Go.Lf.fnE folioref06_namesCtx folioref06_namesCode folioref06_namesAnn [.val .str] [.str, .str, .bool] [.tmp 2, .tmp 3, .tmp 4] (a0) = folioref06_names a0 := by kernel_rfl
noncomputable def folioref06_namesEnt : Nat × Go.Lf.Entry := (53, ⟨[.val .str], [.str, .str, .bool], fun z => folioref06_names z⟩)
theorem folioref06_names_ok : Go.Lf.EntryOk Go.Proofs.Tryd.prog GG 53 folioref06_namesEnt.2 :=
  Go.Lf.fn_ok (c := folioref06_namesCtx) (code := folioref06_namesCode) (an := folioref06_namesAnn) (slots := [.tmp 2, .tmp 3, .tmp 4]) (fn := Go.Proofs.Tryd.f53) (by kernel_rfl) ⟨Tys2_ok, Go.Lf.FnsOk.look (.con folioref06_Name_ok .nil)⟩ (by kernel_rfl) (by kernel_rfl) (by kernel_rfl) (by kernel_rfl) (by kernel_rfl) (Nat.le_of_ble_eq_true rfl) (by simp [Go.Lf.Ty.top]) (by simp [Go.Lf.Ty.top]) fun z r h => (folioref06_names_eq z).trans h
noncomputable def folioref06_colorCtx : Go.Lf.Ctx := ⟨14, Tys2, [strconv_ItoaEnt], [], [], []⟩
noncomputable def folioref06_colorCode : Go.Code := (Go.Proofs.Tryd.f54.body).getD .skip
def folioref06_colorAnn : Go.Lf.Ann := (.seq .no (.seq (.seq .no (.loop ⟨[0], [], [(4, (.int .i64))], []⟩ (.more (.ext 0) ⟨[], [], [], []⟩ (.one .ret ⟨[], [], [(2, (.int .i64)), (3, .bool)], []⟩)) .no)) .no))
noncomputable def folioref06_color (a0 : List (UInt8)) : Option ((Int) × (Bool)) :=
 (Go.Lf.loopC (σ := Int) (κ := (Unit) ⊕ ((Int) × (Bool))) (fun z1 =>
     bif (decide (z1 ≤ (15 : Int))) then ((Go.Fn.strconv_Itoa z1)).bind fun r2 =>
     bif (decide ((r2 : List (UInt8)) = a0)) then some (.inr (.inr (z1, true)))
     else some (.inl (Go.IntKind.wrap .i64 (z1 + (1 : Int))))
     else some (.inr (.inl ()))) (0 : Int) : Option ((Unit) ⊕ ((Int) × (Bool)))).bind fun r3 =>
 Go.Lf.onSum r3 (fun a4 =>
 some ((0 : Int), false)) (fun b5 =>
 some (b5.1, b5.2))
theorem folioref06_color_eq (a0 : List (UInt8)) : Go.Lf.fnE folioref06_colorCtx folioref06_colorCode folioref06_colorAnn [.val .str] [(.int .i64), .bool] [.tmp 2, .tmp 3] (a0) = folioref06_color a0 := by kernel_rfl
noncomputable def folioref06_colorEnt : Nat × Go.Lf.Entry := (54, ⟨[.val .str], [(.int .i64), .bool], fun z => folioref06_color z⟩)
theorem folioref06_color_ok : Go.Lf.EntryOk Go.Proofs.Tryd.prog GG 54 folioref06_colorEnt.2 :=
  Go.Lf.fn_ok (c := folioref06_colorCtx) (code := folioref06_colorCode) (an := folioref06_colorAnn) (slots := [.tmp 2, .tmp 3]) (fn := Go.Proofs.Tryd.f54) (by kernel_rfl) ⟨Tys2_ok, Go.Lf.FnsOk.look (.con strconv_Itoa_ok .nil)⟩ (by kernel_rfl) (by kernel_rfl) (by kernel_rfl) (by kernel_rfl) (by kernel_rfl) (Nat.le_of_ble_eq_true rfl) (by simp [Go.Lf.Ty.top]) (by simp [Go.Lf.Ty.top]) fun z r h => (folioref06_color_eq z).trans h
noncomputable def folioref06_WordsCtx : Go.Lf.Ctx := ⟨2, Tys2, [], [0], [], [(0, (.rw 9 .str))]⟩
noncomputable def folioref06_WordsCode : Go.Code := (Go.Proofs.Tryd.f61.body).getD .skip
def folioref06_WordsAnn : Go.Lf.Ann := .no
noncomputable def folioref06_Words  : Option (List (List (UInt8))) :=
 some (((98 : UInt8) :: ((111 : UInt8) :: ((108 : UInt8) :: ((100 : UInt8) :: ([] : List (UInt8)))))) :: (((105 : UInt8) :: ((116 : UInt8) :: ((97 : UInt8) :: ((108 : UInt8) :: ((105 : UInt8) :: ((99 : UInt8) :: ([] : List (UInt8)))))))) :: (((117 : UInt8) :: ((110 : UInt8) :: ((100 : UInt8) :: ((101 : UInt8) :: ((114 : UInt8) :: ([] : List (UInt8))))))) :: (((115 : UInt8) :: ((116 : UInt8) :: ((114 : UInt8) :: ((105 : UInt8) :: ((107 : UInt8) :: ((101 : UInt8) :: ([] : List (UInt8)))))))) :: (((109 : UInt8) :: ((111 : UInt8) :: ((110 : UInt8) :: ((111 : UInt8) :: ([] : List (UInt8)))))) :: (((115 : UInt8) :: ((109 : UInt8) :: ((97 : UInt8) :: ((108 : UInt8) :: ((108 : UInt8) :: ([] : List (UInt8))))))) :: (((114 : UInt8) :: ((101 : UInt8) :: ((118 : UInt8) :: ((101 : UInt8) :: ((114 : UInt8) :: ((115 : UInt8) :: ((101 : UInt8) :: ([] : List (UInt8))))))))) :: ([] : List (List (UInt8))))))))))
theorem folioref06_Words_eq  : Go.Lf.fnE folioref06_WordsCtx folioref06_WordsCode folioref06_WordsAnn [] [(.rw 9 .str)] [.tmp 0] () = folioref06_Words  := by kernel_rfl
noncomputable def folioref06_WordsEnt : Nat × Go.Lf.Entry := (61, ⟨[], [(.rw 9 .str)], fun _ => folioref06_Words ⟩)
theorem folioref06_Words_ok : Go.Lf.EntryOk Go.Proofs.Tryd.prog GG 61 folioref06_WordsEnt.2 :=
  Go.Lf.fn_ok (c := folioref06_WordsCtx) (code := folioref06_WordsCode) (an := folioref06_WordsAnn) (slots := [.tmp 0]) (fn := Go.Proofs.Tryd.f61) (by kernel_rfl) ⟨Tys2_ok, Go.Lf.FnsOk.look .nil⟩ (by kernel_rfl) (by kernel_rfl) (by kernel_rfl) (by kernel_rfl) (by kernel_rfl) (Nat.le_of_ble_eq_true rfl) (by simp [Go.Lf.Ty.top]) (by simp [Go.Lf.Ty.top]) fun z r h => (folioref06_Words_eq ).trans h
noncomputable def folioref06_bitCtx : Go.Lf.Ctx := ⟨21, Tys2, [folioref06_WordsEnt], [], [], []⟩
noncomputable def folioref06_bitCode : Go.Code := (Go.Proofs.Tryd.f55.body).getD .skip
def folioref06_bitAnn : Go.Lf.Ann := (.seq .no (.seq .no (.seq (.seq .no (.loop ⟨[0, 3], [], [(4, (.int .i64))], []⟩ (.more (.ext 0) ⟨[], [], [], []⟩ (.one .ret ⟨[], [], [(2, (.int .i64))], []⟩)) .no)) .no)))
noncomputable def folioref06_bit (a0 : List (UInt8)) : Option (Int) :=
 (Go.Fn.folioref06_Words).bind fun r1 =>
 (Go.Lf.loopC (σ := Int) (κ := (Unit) ⊕ (Int)) (fun z2 =>
     bif (decide (z2 < (((List.length r1) : Nat) : Int))) then ((Go.Lf.idx r1 z2)).bind fun r3 =>
     bif (decide ((r3 : List (UInt8)) = a0)) then ((Go.Lf.nn (Go.IntKind.wrap .u64 z2) (Go.IntKind.wrap .i64 ((1 : Int) * ((2 : Int) ^ (Min.min (Int.toNat (Go.IntKind.wrap .u64 z2)) (64 : Nat))))))).bind fun r4 =>
     some (.inr (.inr r4))
     else some (.inl (Go.IntKind.wrap .i64 (z2 + (1 : Int))))
     else some (.inr (.inl ()))) (0 : Int) : Option ((Unit) ⊕ (Int))).bind fun r5 =>
 Go.Lf.onSum r5 (fun a6 =>
 some (0 : Int)) (fun b7 =>
 some b7)
theorem folioref06_bit_eq (a0 : List (UInt8)) : Go.Lf.fnE folioref06_bitCtx folioref06_bitCode folioref06_bitAnn [.val .str] [(.int .i64)] [.tmp 2] (a0) = folioref06_bit a0 := by kernel_rfl
noncomputable def folioref06_bitEnt : Nat × Go.Lf.Entry := (55, ⟨[.val .str], [(.int .i64)], fun z => folioref06_bit z⟩)
theorem folioref06_bit_ok : Go.Lf.EntryOk Go.Proofs.Tryd.prog GG 55 folioref06_bitEnt.2 :=
  Go.Lf.fn_ok (c := folioref06_bitCtx) (code := folioref06_bitCode) (an := folioref06_bitAnn) (slots := [.tmp 2]) (fn := Go.Proofs.Tryd.f55) (by kernel_rfl) ⟨Tys2_ok, Go.Lf.FnsOk.look (.con folioref06_Words_ok .nil)⟩ (by kernel_rfl) (by kernel_rfl) (by kernel_rfl) (by kernel_rfl) (by kernel_rfl) (Nat.le_of_ble_eq_true rfl) (by simp [Go.Lf.Ty.top]) (by simp [Go.Lf.Ty.top]) fun z r h => (folioref06_bit_eq z).trans h
noncomputable def folioref06_ParseCtx : Go.Lf.Ctx := ⟨136, Tys2, [folioref06_wordsEnt, folioref06_NoneEnt, folioref06_namesEnt, folioref06_colorEnt, folioref06_bitEnt], [], [], []⟩
noncomputable def folioref06_ParseCode : Go.Code := (Go.Proofs.Tryd.f32.body).getD .skip
def folioref06_ParseAnn : Go.Lf.Ann := (.seq .no (.seq .no (.seq .no (.seq .no (.seq .no (.seq .no (.seq .no (.seq (.seq .no (.loop ⟨[4], [(5, 5, [], 0), (2, 2, [], 0)], [(9, (.int .i64)), (8, .bool)], [(5, 29, (.st (.pr .str (.pr .str (.pr (.st (.pr (.int .i64) (.pr (.int .i64) (.pr (.int .i64) .unit)))) .unit))))), (2, 29, (.st (.pr .str (.pr .str (.pr (.st (.pr (.int .i64) (.pr (.int .i64) (.pr (.int .i64) .unit)))) .unit)))))]⟩ (.one (.ext 0) ⟨[], [(2, 2, [], 0), (5, 5, [], 0)], [(8, .bool)], [(2, 29, (.st (.pr .str (.pr .str (.pr (.st (.pr (.int .i64) (.pr (.int .i64) (.pr (.int .i64) .unit)))) .unit))))), (5, 29, (.st (.pr .str (.pr .str (.pr (.st (.pr (.int .i64) (.pr (.int .i64) (.pr (.int .i64) .unit)))) .unit)))))]⟩) (.seq (.seq (.join (.one .nrm ⟨[4, 9, 8], [(5, 5, [], 0), (2, 2, [], 0)], [(42, .bool)], [(5, 29, (.st (.pr .str (.pr .str (.pr (.st (.pr (.int .i64) (.pr (.int .i64) (.pr (.int .i64) .unit)))) .unit))))), (2, 29, (.st (.pr .str (.pr .str (.pr (.st (.pr (.int .i64) (.pr (.int .i64) (.pr (.int .i64) .unit)))) .unit)))))]⟩) .no) .no) (.seq (.join (.one .nrm ⟨[4], [(5, 5, [], 0), (2, 2, [], 0)], [(8, .bool), (9, (.int .i64))], [(5, 29, (.st (.pr .str (.pr .str (.pr (.st (.pr (.int .i64) (.pr (.int .i64) (.pr (.int .i64) .unit)))) .unit))))), (2, 29, (.st (.pr .str (.pr .str (.pr (.st (.pr (.int .i64) (.pr (.int .i64) (.pr (.int .i64) .unit)))) .unit)))))]⟩) (.seq .no (.cnd (.seq .no (.seq (.join (.one .nrm ⟨[4, 9, 10], [(5, 5, [], 0), (2, 2, [], 0)], [(8, .bool)], [(5, 29, (.st (.pr .str (.pr .str (.pr (.st (.pr (.int .i64) (.pr (.int .i64) (.pr (.int .i64) .unit)))) .unit))))), (2, 29, (.st (.pr .str (.pr .str (.pr (.st (.pr (.int .i64) (.pr (.int .i64) (.pr (.int .i64) .unit)))) .unit)))))]⟩) .no) (.seq (.join (.one .nrm ⟨[4, 9], [(5, 5, [], 0), (2, 2, [], 0)], [(8, .bool), (10, (.int .i64))], [(5, 29, (.st (.pr .str (.pr .str (.pr (.st (.pr (.int .i64) (.pr (.int .i64) (.pr (.int .i64) .unit)))) .unit))))), (2, 29, (.st (.pr .str (.pr .str (.pr (.st (.pr (.int .i64) (.pr (.int .i64) (.pr (.int .i64) .unit)))) .unit)))))]⟩) .no) .no))) (.seq (.join (.one .nrm ⟨[4, 9], [(5, 5, [], 0), (2, 2, [], 0)], [(77, .bool)], [(5, 29, (.st (.pr .str (.pr .str (.pr (.st (.pr (.int .i64) (.pr (.int .i64) (.pr (.int .i64) .unit)))) .unit))))), (2, 29, (.st (.pr .str (.pr .str (.pr (.st (.pr (.int .i64) (.pr (.int .i64) (.pr (.int .i64) .unit)))) .unit)))))]⟩) .no) (.cnd (.seq .no (.seq (.join (.one .nrm ⟨[4, 9, 11], [(5, 5, [], 0), (2, 2, [], 0)], [(8, .bool)], [(5, 29, (.st (.pr .str (.pr .str (.pr (.st (.pr (.int .i64) (.pr (.int .i64) (.pr (.int .i64) .unit)))) .unit))))), (2, 29, (.st (.pr .str (.pr .str (.pr (.st (.pr (.int .i64) (.pr (.int .i64) (.pr (.int .i64) .unit)))) .unit)))))]⟩) .no) .no)) .no))))) .no)))) .no))))))))
noncomputable def folioref06_Parse (a0 : List (UInt8)) : Option (((List (UInt8)) × ((List (UInt8)) × (((Int) × ((Int) × ((Int) × (Unit)))) × (Unit)))) × (Int)) :=
 bif (decide ((4096 : Int) < (((List.length a0) : Nat) : Int))) then some ((([] : List (UInt8)), (([] : List (UInt8)), (((0 : Int), ((0 : Int), ((0 : Int), ()))), ()))), (2 : Int))
 else ((Go.Fn.folioref06_words a0)).bind fun r1 =>
 bif (decide (((((List.length r1) : Nat) : Int) : Int) = (0 : Int))) then some ((([] : List (UInt8)), (([] : List (UInt8)), (((0 : Int), ((0 : Int), ((0 : Int), ()))), ()))), (67 : Int))
 else (Go.Fn.folioref06_None).bind fun r2 =>
 ((Go.Lf.idx r1 (0 : Int))).bind fun r3 =>
 ((Go.Fn.folioref06_names r3)).bind fun r4 =>
 (Go.Lf.loopC (σ := (Int) × ((Bool) × (((List (UInt8)) × ((List (UInt8)) × (((Int) × ((Int) × ((Int) × (Unit)))) × (Unit)))) × ((List (UInt8)) × ((List (UInt8)) × (((Int) × ((Int) × ((Int) × (Unit)))) × (Unit))))))) (κ := (Bool) × (((List (UInt8)) × ((List (UInt8)) × (((Int) × ((Int) × ((Int) × (Unit)))) × (Unit)))) × ((List (UInt8)) × ((List (UInt8)) × (((Int) × ((Int) × ((Int) × (Unit)))) × (Unit)))))) (fun z5 =>
     (bif (decide (z5.1 < (((List.length r1) : Nat) : Int))) then some (z5.2.1, (z5.2.2.1, z5.2.2.2))
       else some (false, (z5.2.2.1, z5.2.2.2))).bind fun r6 =>
     bif r6.1 then (((Go.Lf.idx r1 z5.1)).bind fun r7 =>
       bif (decide ((r7 : List (UInt8)) = ((99 : UInt8) :: ((111 : UInt8) :: ((108 : UInt8) :: ((111 : UInt8) :: ((114 : UInt8) :: ([] : List (UInt8))))))))) then (bif (decide ((r6.2.1.2.2.1.2.2.1 : Int) = (-(1 : Int)))) then some ((decide ((Go.IntKind.wrap .i64 (z5.1 + (1 : Int))) < (((List.length r1) : Nat) : Int))), (r6.2.1, r6.2.2))
         else some (false, (r6.2.1, r6.2.2))).bind fun r8 =>
       (bif r8.1 then ((Go.Lf.idx r1 (Go.IntKind.wrap .i64 (z5.1 + (1 : Int))))).bind fun r9 =>
         ((Go.Fn.folioref06_color r9)).bind fun r10 =>
         some (r10.2, (r10.1, (r8.2.1, r8.2.2)))
         else some (r8.1, ((0 : Int), (r8.2.1, r8.2.2)))).bind fun r11 =>
       some (r11.1, ((Go.IntKind.wrap .i64 (z5.1 + (1 : Int))), ((r11.2.2.1.1, (r11.2.2.1.2.1, ((r11.2.2.1.2.2.1.1, (r11.2.2.1.2.2.1.2.1, (r11.2.1, r11.2.2.1.2.2.1.2.2.2))), r11.2.2.1.2.2.2))), r11.2.2.2)))
       else (((Go.Lf.idx r1 z5.1)).bind fun r12 =>
         ((Go.Lf.idx r12 (0 : Int))).bind fun r13 =>
         bif (!(decide (((((UInt8.toNat r13) : Nat) : Int) : Int) = (43 : Int)))) then ((Go.Lf.idx r1 z5.1)).bind fun r14 =>
         ((Go.Lf.idx r14 (0 : Int))).bind fun r15 =>
         some ((decide (((((UInt8.toNat r15) : Nat) : Int) : Int) = (45 : Int))), (r6.2.1, r6.2.2))
         else some (true, (r6.2.1, r6.2.2))).bind fun r16 =>
       bif r16.1 then ((Go.Lf.idx r1 z5.1)).bind fun r17 =>
       ((Go.Lf.sub r17 (1 : Int) (((List.length r17) : Nat) : Int))).bind fun r18 =>
       ((Go.Fn.folioref06_bit r18)).bind fun r19 =>
       (bif (decide ((r19 : Int) ≠ (0 : Int))) then some ((decide (((Go.Lf.bits .and .i64 (Go.Lf.bits .or .i64 r16.2.1.2.2.1.1 r16.2.1.2.2.1.2.1) r19) : Int) = (0 : Int))), (r16.2.1, r16.2.2))
         else some (false, (r16.2.1, r16.2.2))).bind fun r20 =>
       ((Go.Lf.idx r1 z5.1)).bind fun r21 =>
       ((Go.Lf.idx r21 (0 : Int))).bind fun r22 =>
       bif (decide (((((UInt8.toNat r22) : Nat) : Int) : Int) = (43 : Int))) then some (r20.1, (z5.1, ((r20.2.1.1, (r20.2.1.2.1, (((Go.Lf.bits .or .i64 r20.2.1.2.2.1.1 r19), r20.2.1.2.2.1.2), r20.2.1.2.2.2))), r20.2.2)))
       else some (r20.1, (z5.1, ((r20.2.1.1, (r20.2.1.2.1, ((r20.2.1.2.2.1.1, ((Go.Lf.bits .or .i64 r20.2.1.2.2.1.2.1 r19), r20.2.1.2.2.1.2.2)), r20.2.1.2.2.2))), r20.2.2)))
       else some (false, (z5.1, (r16.2.1, r16.2.2)))).bind fun r23 =>
     some (.inl ((Go.IntKind.wrap .i64 (r23.2.1 + (1 : Int))), (r23.1, (r23.2.2.1, r23.2.2.2))))
     else some (.inr (z5.2.1, (r6.2.2, r6.2.1)))) ((1 : Int), (r4.2.2, ((r4.1, (r4.2.1, (r2, ()))), (([] : List (UInt8)), (([] : List (UInt8)), (((0 : Int), ((0 : Int), ((0 : Int), ()))), ())))))) : Option ((Bool) × (((List (UInt8)) × ((List (UInt8)) × (((Int) × ((Int) × ((Int) × (Unit)))) × (Unit)))) × ((List (UInt8)) × ((List (UInt8)) × (((Int) × ((Int) × ((Int) × (Unit)))) × (Unit))))))).bind fun r24 =>
 bif (!r24.1) then some ((([] : List (UInt8)), (([] : List (UInt8)), (((0 : Int), ((0 : Int), ((0 : Int), ()))), ()))), (67 : Int))
 else some (r24.2.2, (0 : Int))
theorem folioref06_Parse_eq (a0 : List (UInt8)) : Go.Lf.fnE folioref06_ParseCtx folioref06_ParseCode folioref06_ParseAnn [.val .str] [(.st (.pr .str (.pr .str (.pr (.st (.pr (.int .i64) (.pr (.int .i64) (.pr (.int .i64) .unit)))) .unit)))), (.int .i64)] [.cell 2 29, .tmp 3] (a0) = folioref06_Parse a0 := by kernel_rfl
noncomputable def folioref06_ParseEnt : Nat × Go.Lf.Entry := (32, ⟨[.val .str], [(.st (.pr .str (.pr .str (.pr (.st (.pr (.int .i64) (.pr (.int .i64) (.pr (.int .i64) .unit)))) .unit)))), (.int .i64)], fun z => folioref06_Parse z⟩)
theorem folioref06_Parse_ok : Go.Lf.EntryOk Go.Proofs.Tryd.prog GG 32 folioref06_ParseEnt.2 :=
  Go.Lf.fn_ok (c := folioref06_ParseCtx) (code := folioref06_ParseCode) (an := folioref06_ParseAnn) (slots := [.cell 2 29, .tmp 3]) (fn := Go.Proofs.Tryd.f32) (by kernel_rfl) ⟨Tys2_ok, Go.Lf.FnsOk.look (.con folioref06_words_ok (.con folioref06_None_ok (.con folioref06_names_ok (.con folioref06_color_ok (.con folioref06_bit_ok .nil)))))⟩ (by kernel_rfl) (by kernel_rfl) (by kernel_rfl) (by kernel_rfl) (by kernel_rfl) (Nat.le_of_ble_eq_true rfl) (by simp [Go.Lf.Ty.top]) (by simp [Go.Lf.Ty.top]) fun z r h => (folioref06_Parse_eq z).trans h
noncomputable def foliolaw06_stylesCtx : Go.Lf.Ctx := ⟨24, Tys2, [foliolaw06_sameEnt], [], [], []⟩
noncomputable def foliolaw06_stylesCode : Go.Code := (Go.Proofs.Tryd.f14.body).getD .skip
def foliolaw06_stylesAnn : Go.Lf.Ann := (.seq .no (.seq (.join (.one .nrm ⟨[], [], [(4, .bool)], []⟩) .no) .no))
noncomputable def foliolaw06_styles (a0 : (List (UInt8)) × ((List (UInt8)) × (((Int) × ((Int) × ((Int) × (Unit)))) × (Unit)))) (a1 : (List (UInt8)) × ((List (UInt8)) × (((Int) × ((Int) × ((Int) × (Unit)))) × (Unit)))) : Option (Bool) :=
 (bif (decide ((a0.1 : List (UInt8)) = a1.1)) then bif (decide ((a0.2.1 : List (UInt8)) = a1.2.1)) then ((Go.Fn.foliolaw06_same a0.2.2.1 a1.2.2.1)).bind fun r1 =>
   some r1
   else some false
   else some false).bind fun r2 =>
 some r2
theorem foliolaw06_styles_eq (a0 : (List (UInt8)) × ((List (UInt8)) × (((Int) × ((Int) × ((Int) × (Unit)))) × (Unit)))) (a1 : (List (UInt8)) × ((List (UInt8)) × (((Int) × ((Int) × ((Int) × (Unit)))) × (Unit)))) : Go.Lf.fnE foliolaw06_stylesCtx foliolaw06_stylesCode foliolaw06_stylesAnn [.val (.st (.pr .str (.pr .str (.pr (.st (.pr (.int .i64) (.pr (.int .i64) (.pr (.int .i64) .unit)))) .unit)))), .val (.st (.pr .str (.pr .str (.pr (.st (.pr (.int .i64) (.pr (.int .i64) (.pr (.int .i64) .unit)))) .unit))))] [.bool] [.tmp 4] (a0, a1) = foliolaw06_styles a0 a1 := by kernel_rfl
noncomputable def foliolaw06_stylesEnt : Nat × Go.Lf.Entry := (14, ⟨[.val (.st (.pr .str (.pr .str (.pr (.st (.pr (.int .i64) (.pr (.int .i64) (.pr (.int .i64) .unit)))) .unit)))), .val (.st (.pr .str (.pr .str (.pr (.st (.pr (.int .i64) (.pr (.int .i64) (.pr (.int .i64) .unit)))) .unit))))], [.bool], fun z => foliolaw06_styles z.1 z.2⟩)
theorem foliolaw06_styles_ok : Go.Lf.EntryOk Go.Proofs.Tryd.prog GG 14 foliolaw06_stylesEnt.2 :=
  Go.Lf.fn_ok (c := foliolaw06_stylesCtx) (code := foliolaw06_stylesCode) (an := foliolaw06_stylesAnn) (slots := [.tmp 4]) (fn := Go.Proofs.Tryd.f14) (by kernel_rfl) ⟨Tys2_ok, Go.Lf.FnsOk.look (.con foliolaw06_same_ok .nil)⟩ (by kernel_rfl) (by kernel_rfl) (by kernel_rfl) (by kernel_rfl) (by kernel_rfl) (Nat.le_of_ble_eq_true rfl) (by simp [Go.Lf.Ty.top]) (by simp [Go.Lf.Ty.top]) fun z r h => (foliolaw06_styles_eq z.1 z.2).trans h
noncomputable def folioref06_ownCtx : Go.Lf.Ctx := ⟨37, Tys2, [], [], [], []⟩
noncomputable def folioref06_ownCode : Go.Code := (Go.Proofs.Tryd.f40.body).getD .skip
def folioref06_ownAnn : Go.Lf.Ann := (.seq .no (.seq (.seq (.join (.one .nrm ⟨[], [(1, 1, [], 0)], [(28, .bool)], [(1, 27, (.st (.pr (.int .i64) (.pr (.int .i64) (.pr (.int .i64) .unit)))))]⟩) .no) .no) (.seq (.seq (.join (.one .nrm ⟨[], [], [(36, .bool)], []⟩) .no) .no) .no)))
noncomputable def folioref06_own (a0 : (Int) × ((Int) × ((Int) × (Unit)))) : Option (Int) :=
 (bif (!(decide (a0.1 < (0 : Int)))) then bif (!(decide (a0.2.1 < (0 : Int)))) then bif (!(decide ((127 : Int) < a0.1))) then bif (!(decide ((127 : Int) < a0.2.1))) then some ((decide (((Go.Lf.bits .and .i64 a0.1 a0.2.1) : Int) ≠ (0 : Int))), a0)
   else some (true, a0)
   else some (true, a0)
   else some (true, a0)
   else some (true, a0)).bind fun r1 =>
 bif r1.1 then some (62 : Int)
 else (bif (!(decide (r1.2.2.2.1 < (-(1 : Int))))) then some (decide ((15 : Int) < r1.2.2.2.1))
   else some true).bind fun r2 =>
 bif r2 then some (63 : Int)
 else some (0 : Int)
theorem folioref06_own_eq (a0 : (Int) × ((Int) × ((Int) × (Unit)))) : Go.Lf.fnE folioref06_ownCtx folioref06_ownCode folioref06_ownAnn [.val (.st (.pr (.int .i64) (.pr (.int .i64) (.pr (.int .i64) .unit))))] [(.int .i64)] [.tmp 2] (a0) = folioref06_own a0 := by kernel_rfl
noncomputable def folioref06_ownEnt : Nat × Go.Lf.Entry := (40, ⟨[.val (.st (.pr (.int .i64) (.pr (.int .i64) (.pr (.int .i64) .unit))))], [(.int .i64)], fun z => folioref06_own z⟩)
theorem folioref06_own_ok : Go.Lf.EntryOk Go.Proofs.Tryd.prog GG 40 folioref06_ownEnt.2 :=
  Go.Lf.fn_ok (c := folioref06_ownCtx) (code := folioref06_ownCode) (an := folioref06_ownAnn) (slots := [.tmp 2]) (fn := Go.Proofs.Tryd.f40) (by kernel_rfl) ⟨Tys2_ok, Go.Lf.FnsOk.look .nil⟩ (by kernel_rfl) (by kernel_rfl) (by kernel_rfl) (by kernel_rfl) (by kernel_rfl) (Nat.le_of_ble_eq_true rfl) (by simp [Go.Lf.Ty.top]) (by simp [Go.Lf.Ty.top]) fun z r h => (folioref06_own_eq z).trans h
noncomputable def folioref06_bitsCtx : Go.Lf.Ctx := ⟨31, Tys2, [folioref06_WordsEnt], [], [], []⟩
noncomputable def folioref06_bitsCode : Go.Code := (Go.Proofs.Tryd.f58.body).getD .skip
def folioref06_bitsAnn : Go.Lf.Ann := (.seq .no (.seq .no (.seq .no (.seq (.seq .no (.loop ⟨[6, 0, 1], [], [(7, (.int .i64)), (5, .str)], []⟩ (.one (.ext 0) ⟨[], [], [(5, .str)], []⟩) (.seq .no (.seq (.join (.one .nrm ⟨[6, 0, 1, 7], [], [(5, .str)], []⟩) .no) .no)))) .no))))
noncomputable def folioref06_bits (a0 : List (UInt8)) (a1 : Int) : Option (List (UInt8)) :=
 (Go.Fn.folioref06_Words).bind fun r1 =>
 (Go.Lf.loopC (σ := (Int) × (List (UInt8))) (κ := List (UInt8)) (fun z2 =>
     bif (decide (z2.1 < (((List.length r1) : Nat) : Int))) then (((Go.Lf.nn (Go.IntKind.wrap .u64 z2.1) (Int.fdiv a1 ((2 : Int) ^ (Min.min (Int.toNat (Go.IntKind.wrap .u64 z2.1)) (64 : Nat)))))).bind fun r3 =>
       bif (decide (((Go.Lf.bits .and .i64 r3 (1 : Int)) : Int) = (1 : Int))) then ((Go.Lf.cat z2.2 ((32 : UInt8) :: ([] : List (UInt8))))).bind fun r4 =>
       ((Go.Lf.cat r4 a0)).bind fun r5 =>
       ((Go.Lf.idx r1 z2.1)).bind fun r6 =>
       ((Go.Lf.cat r5 r6)).bind fun r7 =>
       some r7
       else some z2.2).bind fun r8 =>
     some (.inl ((Go.IntKind.wrap .i64 (z2.1 + (1 : Int))), r8))
     else some (.inr z2.2)) ((0 : Int), ([] : List (UInt8))) : Option (List (UInt8))).bind fun r9 =>
 some r9
theorem folioref06_bits_eq (a0 : List (UInt8)) (a1 : Int) : Go.Lf.fnE folioref06_bitsCtx folioref06_bitsCode folioref06_bitsAnn [.val .str, .val (.int .i64)] [.str] [.tmp 4] (a0, a1) = folioref06_bits a0 a1 := by kernel_rfl
noncomputable def folioref06_bitsEnt : Nat × Go.Lf.Entry := (58, ⟨[.val .str, .val (.int .i64)], [.str], fun z => folioref06_bits z.1 z.2⟩)
theorem folioref06_bits_ok : Go.Lf.EntryOk Go.Proofs.Tryd.prog GG 58 folioref06_bitsEnt.2 :=
  Go.Lf.fn_ok (c := folioref06_bitsCtx) (code := folioref06_bitsCode) (an := folioref06_bitsAnn) (slots := [.tmp 4]) (fn := Go.Proofs.Tryd.f58) (by kernel_rfl) ⟨Tys2_ok, Go.Lf.FnsOk.look (.con folioref06_Words_ok .nil)⟩ (by kernel_rfl) (by kernel_rfl) (by kernel_rfl) (by kernel_rfl) (by kernel_rfl) (Nat.le_of_ble_eq_true rfl) (by simp [Go.Lf.Ty.top]) (by simp [Go.Lf.Ty.top]) fun z r h => (folioref06_bits_eq z.1 z.2).trans h
noncomputable def folioref06_WriteCtx : Go.Lf.Ctx := ⟨58, Tys2, [folioref06_NameEnt, folioref06_ownEnt, strconv_ItoaEnt, folioref06_bitsEnt], [], [], []⟩
noncomputable def folioref06_WriteCode : Go.Code := (Go.Proofs.Tryd.f34.body).getD .skip
def folioref06_WriteAnn : Go.Lf.Ann := (.seq .no (.seq .no (.seq .no (.seq (.seq (.join (.one .nrm ⟨[], [(1, 1, [], 0)], [(24, .bool)], [(1, 29, (.st (.pr .str (.pr .str (.pr (.st (.pr (.int .i64) (.pr (.int .i64) (.pr (.int .i64) .unit)))) .unit)))))]⟩) .no) .no) (.seq .no (.seq (.join (.one .nrm ⟨[], [(1, 1, [], 0)], [(5, .str)], [(1, 29, (.st (.pr .str (.pr .str (.pr (.st (.pr (.int .i64) (.pr (.int .i64) (.pr (.int .i64) .unit)))) .unit)))))]⟩) .no) (.seq (.draw 12) (.seq (.join (.one .nrm ⟨[], [], [(5, .str)], []⟩) .no) .no))))))))
noncomputable def folioref06_Write (a0 : (List (UInt8)) × ((List (UInt8)) × (((Int) × ((Int) × ((Int) × (Unit)))) × (Unit)))) : Option ((List (UInt8)) × (Int)) :=
 ((Go.Fn.folioref06_Name a0.1)).bind fun r1 =>
 bif (!r1) then some (([] : List (UInt8)), (60 : Int))
 else ((Go.Fn.folioref06_own a0.2.2.1)).bind fun r2 =>
 bif (decide ((r2 : Int) ≠ (0 : Int))) then some (([] : List (UInt8)), r2)
 else (bif (decide ((a0.2.1 : List (UInt8)) ≠ ([] : List (UInt8)))) then ((Go.Fn.folioref06_Name a0.2.1)).bind fun r3 =>
   some ((!r3), a0)
   else some (false, a0)).bind fun r4 =>
 bif r4.1 then some (([] : List (UInt8)), (64 : Int))
 else (bif (decide ((r4.2.2.1 : List (UInt8)) ≠ ([] : List (UInt8)))) then ((Go.Lf.cat r4.2.1 ((58 : UInt8) :: ([] : List (UInt8))))).bind fun r5 =>
   ((Go.Lf.cat r5 r4.2.2.1)).bind fun r6 =>
   some (r6, r4.2)
   else some (r4.2.1, r4.2)).bind fun r7 =>
 ((Go.Fn.folioref06_bits ((43 : UInt8) :: ([] : List (UInt8))) r7.2.2.2.1.1)).bind fun r8 =>
 ((Go.Lf.cat r7.1 r8)).bind fun r9 =>
 ((Go.Fn.folioref06_bits ((45 : UInt8) :: ([] : List (UInt8))) r7.2.2.2.1.2.1)).bind fun r10 =>
 ((Go.Lf.cat r9 r10)).bind fun r11 =>
 (bif (decide ((r7.2.2.2.1.2.2.1 : Int) ≠ (-(1 : Int)))) then ((Go.Lf.cat r11 ((32 : UInt8) :: ((99 : UInt8) :: ((111 : UInt8) :: ((108 : UInt8) :: ((111 : UInt8) :: ((114 : UInt8) :: ((32 : UInt8) :: ([] : List (UInt8))))))))))).bind fun r12 =>
   ((Go.Fn.strconv_Itoa r7.2.2.2.1.2.2.1)).bind fun r13 =>
   ((Go.Lf.cat r12 r13)).bind fun r14 =>
   some r14
   else some r11).bind fun r15 =>
 some (r15, (0 : Int))
theorem folioref06_Write_eq (a0 : (List (UInt8)) × ((List (UInt8)) × (((Int) × ((Int) × ((Int) × (Unit)))) × (Unit)))) : Go.Lf.fnE folioref06_WriteCtx folioref06_WriteCode folioref06_WriteAnn [.val (.st (.pr .str (.pr .str (.pr (.st (.pr (.int .i64) (.pr (.int .i64) (.pr (.int .i64) .unit)))) .unit))))] [.str, (.int .i64)] [.tmp 2, .tmp 3] (a0) = folioref06_Write a0 := by kernel_rfl
noncomputable def folioref06_WriteEnt : Nat × Go.Lf.Entry := (34, ⟨[.val (.st (.pr .str (.pr .str (.pr (.st (.pr (.int .i64) (.pr (.int .i64) (.pr (.int .i64) .unit)))) .unit))))], [.str, (.int .i64)], fun z => folioref06_Write z⟩)
theorem folioref06_Write_ok : Go.Lf.EntryOk Go.Proofs.Tryd.prog GG 34 folioref06_WriteEnt.2 :=
  Go.Lf.fn_ok (c := folioref06_WriteCtx) (code := folioref06_WriteCode) (an := folioref06_WriteAnn) (slots := [.tmp 2, .tmp 3]) (fn := Go.Proofs.Tryd.f34) (by kernel_rfl) ⟨Tys2_ok, Go.Lf.FnsOk.look (.con folioref06_Name_ok (.con folioref06_own_ok (.con strconv_Itoa_ok (.con folioref06_bits_ok .nil))))⟩ (by kernel_rfl) (by kernel_rfl) (by kernel_rfl) (by kernel_rfl) (by kernel_rfl) (Nat.le_of_ble_eq_true rfl) (by simp [Go.Lf.Ty.top]) (by simp [Go.Lf.Ty.top]) fun z r h => (folioref06_Write_eq z).trans h
noncomputable def foliolaw06_StyleTextsCtx : Go.Lf.Ctx := ⟨52, Tys2, [foliolaw06_awakeEnt, foliolaw06_stylesEnt, style_ParseEnt, folioref06_ParseEnt, style_WriteEnt, folioref06_WriteEnt], [], [], []⟩
noncomputable def foliolaw06_StyleTextsCode : Go.Code := (Go.Proofs.Tryd.f6.body).getD .skip
def foliolaw06_StyleTextsAnn : Go.Lf.Ann := (.seq .no (.seq .no (.seq .no (.seq (.seq (.join (.one .nrm ⟨[], [(3, 3, [], 0)], [(33, .bool)], [(3, 29, (.st (.pr .str (.pr .str (.pr (.st (.pr (.int .i64) (.pr (.int .i64) (.pr (.int .i64) .unit)))) .unit)))))]⟩) .no) .no) (.seq .no (.seq .no (.seq (.join (.one .nrm ⟨[], [], [(4, .bool)], []⟩) .no) .no)))))))
noncomputable def foliolaw06_StyleTexts (a0 : List (UInt8)) (a1 : (List (UInt8)) × ((List (UInt8)) × (((Int) × ((Int) × ((Int) × (Unit)))) × (Unit)))) : Option (Bool) :=
 ((Go.Fn.style_Parse a0)).bind fun r1 =>
 ((Go.Fn.folioref06_Parse a0)).bind fun r2 =>
 (((Go.Fn.foliolaw06_styles r1.1 r2.1)).bind fun r3 =>
   bif (!(!r3)) then bif (!(decide ((r1.2 : Int) ≠ r2.2))) then (Go.Fn.foliolaw06_awake).bind fun r4 =>
   some ((!r4), a1)
   else some (true, a1)
   else some (true, a1)).bind fun r5 =>
 bif r5.1 then some false
 else ((Go.Fn.style_Write r5.2)).bind fun r6 =>
 ((Go.Fn.folioref06_Write r5.2)).bind fun r7 =>
 (bif (decide ((r6.1 : List (UInt8)) = r7.1)) then some (decide ((r6.2 : Int) = r7.2))
   else some false).bind fun r8 =>
 some r8
theorem foliolaw06_StyleTexts_eq (a0 : List (UInt8)) (a1 : (List (UInt8)) × ((List (UInt8)) × (((Int) × ((Int) × ((Int) × (Unit)))) × (Unit)))) : Go.Lf.fnE foliolaw06_StyleTextsCtx foliolaw06_StyleTextsCode foliolaw06_StyleTextsAnn [.val .str, .val (.st (.pr .str (.pr .str (.pr (.st (.pr (.int .i64) (.pr (.int .i64) (.pr (.int .i64) .unit)))) .unit))))] [.bool] [.tmp 4] (a0, a1) = foliolaw06_StyleTexts a0 a1 := by kernel_rfl
noncomputable def foliolaw06_StyleTextsEnt : Nat × Go.Lf.Entry := (6, ⟨[.val .str, .val (.st (.pr .str (.pr .str (.pr (.st (.pr (.int .i64) (.pr (.int .i64) (.pr (.int .i64) .unit)))) .unit))))], [.bool], fun z => foliolaw06_StyleTexts z.1 z.2⟩)
theorem foliolaw06_StyleTexts_ok : Go.Lf.EntryOk Go.Proofs.Tryd.prog GG 6 foliolaw06_StyleTextsEnt.2 :=
  Go.Lf.fn_ok (c := foliolaw06_StyleTextsCtx) (code := foliolaw06_StyleTextsCode) (an := foliolaw06_StyleTextsAnn) (slots := [.tmp 4]) (fn := Go.Proofs.Tryd.f6) (by kernel_rfl) ⟨Tys2_ok, Go.Lf.FnsOk.look (.con foliolaw06_awake_ok (.con foliolaw06_styles_ok (.con style_Parse_ok (.con folioref06_Parse_ok (.con style_Write_ok (.con folioref06_Write_ok .nil))))))⟩ (by kernel_rfl) (by kernel_rfl) (by kernel_rfl) (by kernel_rfl) (by kernel_rfl) (Nat.le_of_ble_eq_true rfl) (by simp [Go.Lf.Ty.top]) (by simp [Go.Lf.Ty.top]) fun z r h => (foliolaw06_StyleTexts_eq z.1 z.2).trans h
noncomputable def foliolaw06_wholeCtx : Go.Lf.Ctx := ⟨6, Tys2, [folioref06_BaseEnt], [2], [], [(2, (.rw 29 (.st (.pr .str (.pr .str (.pr (.st (.pr (.int .i64) (.pr (.int .i64) (.pr (.int .i64) .unit)))) .unit))))))]⟩
noncomputable def foliolaw06_wholeCode : Go.Code := (Go.Proofs.Tryd.f26.body).getD .skip
def foliolaw06_wholeAnn : Go.Lf.Ann := .no
noncomputable def foliolaw06_whole (a0 : List ((List (UInt8)) × ((List (UInt8)) × (((Int) × ((Int) × ((Int) × (Unit)))) × (Unit))))) : Option (List ((List (UInt8)) × ((List (UInt8)) × (((Int) × ((Int) × ((Int) × (Unit)))) × (Unit))))) :=
 (Go.Fn.folioref06_Base).bind fun r1 =>
 ((Go.Lf.app (56 : Nat) r1 a0)).bind fun r2 =>
 some r2
theorem foliolaw06_whole_eq (a0 : List ((List (UInt8)) × ((List (UInt8)) × (((Int) × ((Int) × ((Int) × (Unit)))) × (Unit))))) : Go.Lf.fnE foliolaw06_wholeCtx foliolaw06_wholeCode foliolaw06_wholeAnn [.val (.sl (.st (.pr .str (.pr .str (.pr (.st (.pr (.int .i64) (.pr (.int .i64) (.pr (.int .i64) .unit)))) .unit)))))] [(.rw 29 (.st (.pr .str (.pr .str (.pr (.st (.pr (.int .i64) (.pr (.int .i64) (.pr (.int .i64) .unit)))) .unit)))))] [.tmp 2] (a0) = foliolaw06_whole a0 := by kernel_rfl
noncomputable def foliolaw06_wholeEnt : Nat × Go.Lf.Entry := (26, ⟨[.val (.sl (.st (.pr .str (.pr .str (.pr (.st (.pr (.int .i64) (.pr (.int .i64) (.pr (.int .i64) .unit)))) .unit)))))], [(.rw 29 (.st (.pr .str (.pr .str (.pr (.st (.pr (.int .i64) (.pr (.int .i64) (.pr (.int .i64) .unit)))) .unit)))))], fun z => foliolaw06_whole z⟩)
theorem foliolaw06_whole_ok : Go.Lf.EntryOk Go.Proofs.Tryd.prog GG 26 foliolaw06_wholeEnt.2 :=
  Go.Lf.fn_ok (c := foliolaw06_wholeCtx) (code := foliolaw06_wholeCode) (an := foliolaw06_wholeAnn) (slots := [.tmp 2]) (fn := Go.Proofs.Tryd.f26) (by kernel_rfl) ⟨Tys2_ok, Go.Lf.FnsOk.look (.con folioref06_Base_ok .nil)⟩ (by kernel_rfl) (by kernel_rfl) (by kernel_rfl) (by kernel_rfl) (by kernel_rfl) (Nat.le_of_ble_eq_true rfl) (by simp [Go.Lf.Ty.top]) (by simp [Go.Lf.Ty.top]) fun z r h => (foliolaw06_whole_eq z).trans h
noncomputable def folioref06_FindCtx : Go.Lf.Ctx := ⟨21, Tys2, [], [], [], []⟩
noncomputable def folioref06_FindCode : Go.Code := (Go.Proofs.Tryd.f19.body).getD .skip
def folioref06_FindAnn : Go.Lf.Ann := (.seq .no (.seq (.seq .no (.loop ⟨[1, 0], [], [(6, (.int .i64))], []⟩ (.more (.ext 0) ⟨[], [], [], []⟩ (.one .ret ⟨[], [], [(4, (.int .i64)), (5, .bool)], []⟩)) .no)) .no))
noncomputable def folioref06_Find (a0 : List ((List (UInt8)) × ((List (UInt8)) × (((Int) × ((Int) × ((Int) × (Unit)))) × (Unit))))) (a1 : List (UInt8)) : Option ((Int) × (Bool)) :=
 (Go.Lf.loopC (σ := Int) (κ := (Unit) ⊕ ((Int) × (Bool))) (fun z1 =>
     bif (decide (z1 < (((List.length a0) : Nat) : Int))) then ((Go.Lf.idx a0 z1)).bind fun r2 =>
     bif (decide ((r2.1 : List (UInt8)) = a1)) then some (.inr (.inr (z1, true)))
     else some (.inl (Go.IntKind.wrap .i64 (z1 + (1 : Int))))
     else some (.inr (.inl ()))) (0 : Int) : Option ((Unit) ⊕ ((Int) × (Bool)))).bind fun r3 =>
 Go.Lf.onSum r3 (fun a4 =>
 some ((0 : Int), false)) (fun b5 =>
 some (b5.1, b5.2))
theorem folioref06_Find_eq (a0 : List ((List (UInt8)) × ((List (UInt8)) × (((Int) × ((Int) × ((Int) × (Unit)))) × (Unit))))) (a1 : List (UInt8)) : Go.Lf.fnE folioref06_FindCtx folioref06_FindCode folioref06_FindAnn [.val (.sl (.st (.pr .str (.pr .str (.pr (.st (.pr (.int .i64) (.pr (.int .i64) (.pr (.int .i64) .unit)))) .unit))))), .val .str] [(.int .i64), .bool] [.tmp 4, .tmp 5] (a0, a1) = folioref06_Find a0 a1 := by kernel_rfl
noncomputable def folioref06_FindEnt : Nat × Go.Lf.Entry := (19, ⟨[.val (.sl (.st (.pr .str (.pr .str (.pr (.st (.pr (.int .i64) (.pr (.int .i64) (.pr (.int .i64) .unit)))) .unit))))), .val .str], [(.int .i64), .bool], fun z => folioref06_Find z.1 z.2⟩)
theorem folioref06_Find_ok : Go.Lf.EntryOk Go.Proofs.Tryd.prog GG 19 folioref06_FindEnt.2 :=
  Go.Lf.fn_ok (c := folioref06_FindCtx) (code := folioref06_FindCode) (an := folioref06_FindAnn) (slots := [.tmp 4, .tmp 5]) (fn := Go.Proofs.Tryd.f19) (by kernel_rfl) ⟨Tys2_ok, Go.Lf.FnsOk.look .nil⟩ (by kernel_rfl) (by kernel_rfl) (by kernel_rfl) (by kernel_rfl) (by kernel_rfl) (Nat.le_of_ble_eq_true rfl) (by simp [Go.Lf.Ty.top]) (by simp [Go.Lf.Ty.top]) fun z r h => (folioref06_Find_eq z.1 z.2).trans h
noncomputable def folioref06_chainCtx : Go.Lf.Ctx := ⟨33, Tys2, [folioref06_FindEnt], [], [], []⟩
noncomputable def folioref06_chainCode : Go.Code := (Go.Proofs.Tryd.f41.body).getD .skip
def folioref06_chainAnn : Go.Lf.Ann := (.seq .no (.seq .no (.seq (.loop ⟨[0], [], [(5, (.int .i64)), (1, (.int .i64))], []⟩ (.more (.ext 0) ⟨[], [], [], []⟩ (.one .ret ⟨[], [], [(4, (.int .i64))], []⟩)) .no) .no)))
noncomputable def folioref06_chain (a0 : List ((List (UInt8)) × ((List (UInt8)) × (((Int) × ((Int) × ((Int) × (Unit)))) × (Unit))))) (a1 : Int) : Option (Int) :=
 (Go.Lf.loopC (σ := (Int) × (Int)) (κ := (Unit) ⊕ (Int)) (fun z1 =>
     ((Go.Lf.idx a0 z1.2)).bind fun r2 =>
     bif (decide ((r2.2.1 : List (UInt8)) ≠ ([] : List (UInt8)))) then ((Go.Lf.idx a0 z1.2)).bind fun r3 =>
     ((Go.Fn.folioref06_Find a0 r3.2.1)).bind fun r4 =>
     bif (!r4.2) then bif (decide ((z1.1 : Int) = (1 : Int))) then some (.inr (.inr (64 : Int)))
     else some (.inr (.inr (0 : Int)))
     else bif (decide ((8 : Int) < (Go.IntKind.wrap .i64 (z1.1 + (1 : Int))))) then some (.inr (.inr (65 : Int)))
     else some (.inl ((Go.IntKind.wrap .i64 (z1.1 + (1 : Int))), r4.1))
     else some (.inr (.inl ()))) ((1 : Int), a1) : Option ((Unit) ⊕ (Int))).bind fun r5 =>
 Go.Lf.onSum r5 (fun a6 =>
 some (0 : Int)) (fun b7 =>
 some b7)
theorem folioref06_chain_eq (a0 : List ((List (UInt8)) × ((List (UInt8)) × (((Int) × ((Int) × ((Int) × (Unit)))) × (Unit))))) (a1 : Int) : Go.Lf.fnE folioref06_chainCtx folioref06_chainCode folioref06_chainAnn [.val (.sl (.st (.pr .str (.pr .str (.pr (.st (.pr (.int .i64) (.pr (.int .i64) (.pr (.int .i64) .unit)))) .unit))))), .val (.int .i64)] [(.int .i64)] [.tmp 4] (a0, a1) = folioref06_chain a0 a1 := by kernel_rfl
noncomputable def folioref06_chainEnt : Nat × Go.Lf.Entry := (41, ⟨[.val (.sl (.st (.pr .str (.pr .str (.pr (.st (.pr (.int .i64) (.pr (.int .i64) (.pr (.int .i64) .unit)))) .unit))))), .val (.int .i64)], [(.int .i64)], fun z => folioref06_chain z.1 z.2⟩)
theorem folioref06_chain_ok : Go.Lf.EntryOk Go.Proofs.Tryd.prog GG 41 folioref06_chainEnt.2 :=
  Go.Lf.fn_ok (c := folioref06_chainCtx) (code := folioref06_chainCode) (an := folioref06_chainAnn) (slots := [.tmp 4]) (fn := Go.Proofs.Tryd.f41) (by kernel_rfl) ⟨Tys2_ok, Go.Lf.FnsOk.look (.con folioref06_Find_ok .nil)⟩ (by kernel_rfl) (by kernel_rfl) (by kernel_rfl) (by kernel_rfl) (by kernel_rfl) (Nat.le_of_ble_eq_true rfl) (by simp [Go.Lf.Ty.top]) (by simp [Go.Lf.Ty.top]) fun z r h => (folioref06_chain_eq z.1 z.2).trans h
noncomputable def folioref06_CheckCtx : Go.Lf.Ctx := ⟨64, Tys2, [folioref06_FindEnt, folioref06_NameEnt, folioref06_ownEnt, folioref06_chainEnt], [], [], []⟩
noncomputable def folioref06_CheckCode : Go.Code := (Go.Proofs.Tryd.f17.body).getD .skip
def folioref06_CheckAnn : Go.Lf.Ann := (.seq .no (.seq .no (.seq (.seq .no (.loop ⟨[0], [], [(4, (.int .i64))], []⟩ (.more (.ext 0) ⟨[0], [], [], []⟩ (.one .ret ⟨[], [], [(2, (.int .i64)), (3, (.int .i64))], []⟩)) .no)) (.seq (.seq .no (.loop ⟨[0], [], [(8, (.int .i64))], []⟩ (.more (.ext 2) ⟨[], [], [], []⟩ (.one .ret ⟨[], [], [(2, (.int .i64)), (3, (.int .i64))], []⟩)) .no)) .no))))
noncomputable def folioref06_Check (a0 : List ((List (UInt8)) × ((List (UInt8)) × (((Int) × ((Int) × ((Int) × (Unit)))) × (Unit))))) : Option ((Int) × (Int)) :=
 bif (decide ((64 : Int) < (((List.length a0) : Nat) : Int))) then some ((0 : Int), (2 : Int))
 else (Go.Lf.loopC (σ := Int) (κ := (Unit) ⊕ ((Int) × (Int))) (fun z1 =>
     bif (decide (z1 < (((List.length a0) : Nat) : Int))) then ((Go.Lf.idx a0 z1)).bind fun r2 =>
     ((Go.Fn.folioref06_Name r2.1)).bind fun r3 =>
     bif (!r3) then some (.inr (.inr (z1, (60 : Int))))
     else ((Go.Lf.idx a0 z1)).bind fun r4 =>
     ((Go.Fn.folioref06_Find a0 r4.1)).bind fun r5 =>
     bif (decide (r5.1 < z1)) then some (.inr (.inr (z1, (61 : Int))))
     else ((Go.Lf.idx a0 z1)).bind fun r6 =>
     ((Go.Fn.folioref06_own r6.2.2.1)).bind fun r7 =>
     bif (decide ((r7 : Int) ≠ (0 : Int))) then some (.inr (.inr (z1, r7)))
     else some (.inl (Go.IntKind.wrap .i64 (z1 + (1 : Int))))
     else some (.inr (.inl ()))) (0 : Int) : Option ((Unit) ⊕ ((Int) × (Int)))).bind fun r8 =>
 Go.Lf.onSum r8 (fun a9 =>
 (Go.Lf.loopC (σ := Int) (κ := (Unit) ⊕ ((Int) × (Int))) (fun z10 =>
     bif (decide (z10 < (((List.length a0) : Nat) : Int))) then ((Go.Fn.folioref06_chain a0 z10)).bind fun r11 =>
     bif (decide ((r11 : Int) ≠ (0 : Int))) then some (.inr (.inr (z10, r11)))
     else some (.inl (Go.IntKind.wrap .i64 (z10 + (1 : Int))))
     else some (.inr (.inl ()))) (0 : Int) : Option ((Unit) ⊕ ((Int) × (Int)))).bind fun r12 =>
 Go.Lf.onSum r12 (fun a13 =>
 some ((0 : Int), (0 : Int))) (fun b14 =>
 some (b14.1, b14.2))) (fun b15 =>
 some (b15.1, b15.2))
theorem folioref06_Check_eq (a0 : List ((List (UInt8)) × ((List (UInt8)) × (((Int) × ((Int) × ((Int) × (Unit)))) × (Unit))))) : Go.Lf.fnE folioref06_CheckCtx folioref06_CheckCode folioref06_CheckAnn [.val (.sl (.st (.pr .str (.pr .str (.pr (.st (.pr (.int .i64) (.pr (.int .i64) (.pr (.int .i64) .unit)))) .unit)))))] [(.int .i64), (.int .i64)] [.tmp 2, .tmp 3] (a0) = folioref06_Check a0 := by kernel_rfl
noncomputable def folioref06_CheckEnt : Nat × Go.Lf.Entry := (17, ⟨[.val (.sl (.st (.pr .str (.pr .str (.pr (.st (.pr (.int .i64) (.pr (.int .i64) (.pr (.int .i64) .unit)))) .unit)))))], [(.int .i64), (.int .i64)], fun z => folioref06_Check z⟩)
theorem folioref06_Check_ok : Go.Lf.EntryOk Go.Proofs.Tryd.prog GG 17 folioref06_CheckEnt.2 :=
  Go.Lf.fn_ok (c := folioref06_CheckCtx) (code := folioref06_CheckCode) (an := folioref06_CheckAnn) (slots := [.tmp 2, .tmp 3]) (fn := Go.Proofs.Tryd.f17) (by kernel_rfl) ⟨Tys2_ok, Go.Lf.FnsOk.look (.con folioref06_Find_ok (.con folioref06_Name_ok (.con folioref06_own_ok (.con folioref06_chain_ok .nil))))⟩ (by kernel_rfl) (by kernel_rfl) (by kernel_rfl) (by kernel_rfl) (by kernel_rfl) (Nat.le_of_ble_eq_true rfl) (by simp [Go.Lf.Ty.top]) (by simp [Go.Lf.Ty.top]) fun z r h => (folioref06_Check_eq z).trans h
noncomputable def foliolaw06_StyleSplitsCtx : Go.Lf.Ctx := ⟨139, Tys2, [foliolaw06_awakeEnt, folioref06_CheckEnt, foliolaw06_lookEnt, style_ApplyEnt, foliolaw06_wholeEnt, style_WholeEnt, style_NestEnt], [16, 88], [], [(16, (.rw 9 .str)), (88, (.rw 9 .str))]⟩
noncomputable def foliolaw06_StyleSplitsCode : Go.Code := (Go.Proofs.Tryd.f8.body).getD .skip
def foliolaw06_StyleSplitsAnn : Go.Lf.Ann := (.seq .no (.seq .no (.seq .no (.seq (.seq .no (.seq (.join (.one .nrm ⟨[2, 7, 1], [], [(43, .bool)], []⟩) .no) .no)) (.seq .no (.seq .no (.seq .no (.seq .no (.seq (.seq .no (.loop ⟨[15, 2, 7, 1], [(10, 10, [], 0), (13, 13, [], 0)], [(17, (.int .i64)), (16, (.rw 9 .str))], [(10, 40, (.st (.pr (.int .i64) (.pr (.int .i64) .unit)))), (13, 40, (.st (.pr (.int .i64) (.pr (.int .i64) .unit))))]⟩ (.more (.ext 0) ⟨[15, 1, 7], [(13, 13, [], 0), (10, 10, [], 0)], [(16, (.rw 9 .str))], [(13, 40, (.st (.pr (.int .i64) (.pr (.int .i64) .unit)))), (10, 40, (.st (.pr (.int .i64) (.pr (.int .i64) .unit))))]⟩ (.one .ret ⟨[], [], [(6, .bool)], []⟩)) (.seq .no (.seq (.seq .no (.seq .no (.seq .no (.draw 9)))) .no)))) (.seq (.seq .no (.cnd (.seq (.join (.one .nrm ⟨[], [], [(6, .bool)], []⟩) .no) .no) .no)) (.seq .no (.seq (.join (.one .nrm ⟨[], [], [(6, .bool)], []⟩) .no) .no))))))))))))
noncomputable def foliolaw06_StyleSplits (a0 : List ((List (UInt8)) × ((List (UInt8)) × (((Int) × ((Int) × ((Int) × (Unit)))) × (Unit))))) (a1 : List (List (UInt8))) (a2 : List (List (UInt8))) : Option (Bool) :=
 (Go.Fn.foliolaw06_awake).bind fun r1 =>
 bif (!r1) then some false
 else ((Go.Fn.foliolaw06_whole a0)).bind fun r2 =>
 ((Go.Fn.folioref06_Check r2)).bind fun r3 =>
 (bif (!(decide ((r3.2 : Int) ≠ (0 : Int)))) then bif (!(decide ((15 : Int) < (((List.length a1) : Nat) : Int)))) then some (decide ((15 : Int) < (((List.length a2) : Nat) : Int)))
   else some true
   else some true).bind fun r4 =>
 bif r4 then some true
 else ((Go.Fn.style_Nest r2 a1)).bind fun r5 =>
 ((Go.Lf.app (16 : Nat) ([] : List (List (UInt8))) a1)).bind fun r6 =>
 ((Go.Lf.app (16 : Nat) r6 a2)).bind fun r7 =>
 ((Go.Fn.style_Nest r2 r7)).bind fun r8 =>
 bif (decide ((r5.2.2 : Int) ≠ (0 : Int))) then some (decide ((r8.2.2 : Int) ≠ (0 : Int)))
 else (Go.Lf.loopC (σ := (Int) × ((List (List (UInt8))) × (((Int) × ((Int) × (Unit))) × ((Int) × ((Int) × (Unit)))))) (κ := ((List (List (UInt8))) × (((Int) × ((Int) × (Unit))) × ((Int) × ((Int) × (Unit))))) ⊕ (Bool)) (fun z9 =>
     bif (decide (z9.1 < (((List.length a2) : Nat) : Int))) then ((Go.Lf.idx a2 z9.1)).bind fun r10 =>
     ((Go.Fn.style_Whole r2 r10)).bind fun r11 =>
     bif (decide ((r11.2 : Int) ≠ (0 : Int))) then some (.inr (.inr (decide ((r8.2.2 : Int) = (66 : Int)))))
     else ((Go.Fn.style_Apply z9.2.2.1 r11.1)).bind fun r12 =>
     ((Go.Lf.idx a2 z9.1)).bind fun r13 =>
     ((Go.Lf.idx a2 z9.1)).bind fun r14 =>
     ((Go.Lf.app (16 : Nat) z9.2.1 (r13 :: (r14 :: ([] : List (List (UInt8))))))).bind fun r15 =>
     some (.inl ((Go.IntKind.wrap .i64 (z9.1 + (1 : Int))), (r15, (r12, z9.2.2.2))))
     else some (.inr (.inl (z9.2.1, (z9.2.2.2, z9.2.2.1))))) ((0 : Int), (([] : List (List (UInt8))), (r5.1, r8.1))) : Option (((List (List (UInt8))) × (((Int) × ((Int) × (Unit))) × ((Int) × ((Int) × (Unit))))) ⊕ (Bool))).bind fun r16 =>
 Go.Lf.onSum r16 (fun a17 =>
 bif (decide ((32 : Int) < (Go.IntKind.wrap .i64 ((((List.length a1) : Nat) : Int) + (((List.length a17.1) : Nat) : Int))))) then (bif (decide ((r8.2.2 : Int) = (0 : Int))) then ((Go.Fn.foliolaw06_look a17.2.2 a17.2.1)).bind fun r18 =>
   some r18
   else some false).bind fun r19 =>
 some r19
 else ((Go.Lf.app (16 : Nat) ([] : List (List (UInt8))) a1)).bind fun r20 =>
 ((Go.Lf.app (16 : Nat) r20 a17.1)).bind fun r21 =>
 ((Go.Fn.style_Nest r2 r21)).bind fun r22 =>
 (bif (decide ((r8.2.2 : Int) = (0 : Int))) then ((Go.Fn.foliolaw06_look a17.2.2 a17.2.1)).bind fun r23 =>
   bif r23 then bif (decide ((r22.2.2 : Int) = (0 : Int))) then ((Go.Fn.foliolaw06_look r22.1 a17.2.1)).bind fun r24 =>
   some r24
   else some false
   else some false
   else some false).bind fun r25 =>
 some r25) (fun b26 =>
 some b26)
theorem foliolaw06_StyleSplits_eq (a0 : List ((List (UInt8)) × ((List (UInt8)) × (((Int) × ((Int) × ((Int) × (Unit)))) × (Unit))))) (a1 : List (List (UInt8))) (a2 : List (List (UInt8))) : Go.Lf.fnE foliolaw06_StyleSplitsCtx foliolaw06_StyleSplitsCode foliolaw06_StyleSplitsAnn [.val (.sl (.st (.pr .str (.pr .str (.pr (.st (.pr (.int .i64) (.pr (.int .i64) (.pr (.int .i64) .unit)))) .unit))))), .val (.sl .str), .val (.sl .str)] [.bool] [.tmp 6] (a0, a1, a2) = foliolaw06_StyleSplits a0 a1 a2 := by kernel_rfl
noncomputable def foliolaw06_StyleSplitsEnt : Nat × Go.Lf.Entry := (8, ⟨[.val (.sl (.st (.pr .str (.pr .str (.pr (.st (.pr (.int .i64) (.pr (.int .i64) (.pr (.int .i64) .unit)))) .unit))))), .val (.sl .str), .val (.sl .str)], [.bool], fun z => foliolaw06_StyleSplits z.1 z.2.1 z.2.2⟩)
theorem foliolaw06_StyleSplits_ok : Go.Lf.EntryOk Go.Proofs.Tryd.prog GG 8 foliolaw06_StyleSplitsEnt.2 :=
  Go.Lf.fn_ok (c := foliolaw06_StyleSplitsCtx) (code := foliolaw06_StyleSplitsCode) (an := foliolaw06_StyleSplitsAnn) (slots := [.tmp 6]) (fn := Go.Proofs.Tryd.f8) (by kernel_rfl) ⟨Tys2_ok, Go.Lf.FnsOk.look (.con foliolaw06_awake_ok (.con folioref06_Check_ok (.con foliolaw06_look_ok (.con style_Apply_ok (.con foliolaw06_whole_ok (.con style_Whole_ok (.con style_Nest_ok .nil)))))))⟩ (by kernel_rfl) (by kernel_rfl) (by kernel_rfl) (by kernel_rfl) (by kernel_rfl) (Nat.le_of_ble_eq_true rfl) (by simp [Go.Lf.Ty.top]) (by simp [Go.Lf.Ty.top]) fun z r h => (foliolaw06_StyleSplits_eq z.1 z.2.1 z.2.2).trans h
noncomputable def foliolaw06_StyleBackCtx : Go.Lf.Ctx := ⟨67, Tys2, [foliolaw06_awakeEnt, foliolaw06_stylesEnt, style_ParseEnt, style_WriteEnt], [], [], []⟩
noncomputable def foliolaw06_StyleBackCode : Go.Code := (Go.Proofs.Tryd.f9.body).getD .skip
def foliolaw06_StyleBackAnn : Go.Lf.Ann := (.seq .no (.seq .no (.seq (.join (.more .ret ⟨[], [], [(4, .bool)], []⟩ (.one .nrm ⟨[0], [], [], []⟩)) (.seq .no (.seq .no (.cnd (.seq .no (.seq (.join (.one .nrm ⟨[0], [], [(35, .bool)], []⟩) .no) .no)) .no)))) (.seq .no (.seq .no (.seq .no (.seq .no (.seq (.join (.one .nrm ⟨[], [], [(4, .bool)], []⟩) .no) .no))))))))
noncomputable def foliolaw06_StyleBack (a0 : List (UInt8)) (a1 : (List (UInt8)) × ((List (UInt8)) × (((Int) × ((Int) × ((Int) × (Unit)))) × (Unit)))) : Option (Bool) :=
 (Go.Fn.foliolaw06_awake).bind fun r1 =>
 bif (!r1) then some false
 else (((Go.Fn.style_Write a1)).bind fun r2 =>
   bif (decide ((r2.2 : Int) = (0 : Int))) then ((Go.Fn.style_Parse r2.1)).bind fun r3 =>
   (bif (!(decide ((r3.2 : Int) ≠ (0 : Int)))) then ((Go.Fn.foliolaw06_styles r3.1 a1)).bind fun r4 =>
     some (!r4)
     else some true).bind fun r5 =>
   bif r5 then some (.inl false)
   else some (.inr ())
   else some (.inr ()) : Option ((Bool) ⊕ (Unit))).bind fun r6 =>
 Go.Lf.onSum r6 (fun a7 =>
 some a7) (fun b8 =>
 ((Go.Fn.style_Parse a0)).bind fun r9 =>
 bif (decide ((r9.2 : Int) ≠ (0 : Int))) then ((Go.Fn.foliolaw06_styles r9.1 (([] : List (UInt8)), (([] : List (UInt8)), (((0 : Int), ((0 : Int), ((0 : Int), ()))), ()))))).bind fun r10 =>
 some r10
 else ((Go.Fn.style_Write r9.1)).bind fun r11 =>
 ((Go.Fn.style_Parse r11.1)).bind fun r12 =>
 (bif (decide ((r11.2 : Int) = (0 : Int))) then bif (decide ((r12.2 : Int) = (0 : Int))) then ((Go.Fn.foliolaw06_styles r9.1 r12.1)).bind fun r13 =>
   some r13
   else some false
   else some false).bind fun r14 =>
 some r14)
theorem foliolaw06_StyleBack_eq (a0 : List (UInt8)) (a1 : (List (UInt8)) × ((List (UInt8)) × (((Int) × ((Int) × ((Int) × (Unit)))) × (Unit)))) : Go.Lf.fnE foliolaw06_StyleBackCtx foliolaw06_StyleBackCode foliolaw06_StyleBackAnn [.val .str, .val (.st (.pr .str (.pr .str (.pr (.st (.pr (.int .i64) (.pr (.int .i64) (.pr (.int .i64) .unit)))) .unit))))] [.bool] [.tmp 4] (a0, a1) = foliolaw06_StyleBack a0 a1 := by kernel_rfl
noncomputable def foliolaw06_StyleBackEnt : Nat × Go.Lf.Entry := (9, ⟨[.val .str, .val (.st (.pr .str (.pr .str (.pr (.st (.pr (.int .i64) (.pr (.int .i64) (.pr (.int .i64) .unit)))) .unit))))], [.bool], fun z => foliolaw06_StyleBack z.1 z.2⟩)
theorem foliolaw06_StyleBack_ok : Go.Lf.EntryOk Go.Proofs.Tryd.prog GG 9 foliolaw06_StyleBackEnt.2 :=
  Go.Lf.fn_ok (c := foliolaw06_StyleBackCtx) (code := foliolaw06_StyleBackCode) (an := foliolaw06_StyleBackAnn) (slots := [.tmp 4]) (fn := Go.Proofs.Tryd.f9) (by kernel_rfl) ⟨Tys2_ok, Go.Lf.FnsOk.look (.con foliolaw06_awake_ok (.con foliolaw06_styles_ok (.con style_Parse_ok (.con style_Write_ok .nil))))⟩ (by kernel_rfl) (by kernel_rfl) (by kernel_rfl) (by kernel_rfl) (by kernel_rfl) (Nat.le_of_ble_eq_true rfl) (by simp [Go.Lf.Ty.top]) (by simp [Go.Lf.Ty.top]) fun z r h => (foliolaw06_StyleBack_eq z.1 z.2).trans h
noncomputable def folioref06_wholeCtx (self : (List ((List (UInt8)) × ((List (UInt8)) × (((Int) × ((Int) × ((Int) × (Unit)))) × (Unit))))) × (Int) → Option ((Int) × ((Int) × ((Int) × (Unit))))) : Go.Lf.Ctx := ⟨35, Tys2, [folioref06_FindEnt, folioref06_ThenEnt, (43, ⟨[.val (.sl (.st (.pr .str (.pr .str (.pr (.st (.pr (.int .i64) (.pr (.int .i64) (.pr (.int .i64) .unit)))) .unit))))), .val (.int .i64)], [(.st (.pr (.int .i64) (.pr (.int .i64) (.pr (.int .i64) .unit))))], self⟩), folioref06_NoneEnt], [], [], []⟩
noncomputable def folioref06_wholeCode : Go.Code := (Go.Proofs.Tryd.f43.body).getD .skip
def folioref06_wholeAnn : Go.Lf.Ann := (.seq .no (.seq .no (.seq (.join (.one .nrm ⟨[1, 0], [(4, 4, [], 0), (5, 5, [], 0)], [], [(4, 27, (.st (.pr (.int .i64) (.pr (.int .i64) (.pr (.int .i64) .unit))))), (5, 27, (.st (.pr (.int .i64) (.pr (.int .i64) (.pr (.int .i64) .unit)))))]⟩) .no) (.seq (.draw 7) .no))))
noncomputable def folioref06_wholeB (self : (List ((List (UInt8)) × ((List (UInt8)) × (((Int) × ((Int) × ((Int) × (Unit)))) × (Unit))))) × (Int) → Option ((Int) × ((Int) × ((Int) × (Unit))))) (a0 : List ((List (UInt8)) × ((List (UInt8)) × (((Int) × ((Int) × ((Int) × (Unit)))) × (Unit))))) (a1 : Int) : Option ((Int) × ((Int) × ((Int) × (Unit)))) :=
 (Go.Fn.folioref06_None).bind fun r1 =>
 (((Go.Lf.idx a0 a1)).bind fun r2 =>
   bif (decide ((r2.2.1 : List (UInt8)) ≠ ([] : List (UInt8)))) then ((Go.Lf.idx a0 a1)).bind fun r3 =>
   ((Go.Fn.folioref06_Find a0 r3.2.1)).bind fun r4 =>
   ((self (a0, r4.1))).bind fun r5 =>
   some (((0 : Int), ((0 : Int), ((0 : Int), ()))), r5)
   else some (((0 : Int), ((0 : Int), ((0 : Int), ()))), r1)).bind fun r6 =>
 ((Go.Lf.idx a0 a1)).bind fun r7 =>
 ((Go.Fn.folioref06_Then r6.2 r7.2.2.1)).bind fun r8 =>
 some r8
theorem folioref06_whole_eq (self : (List ((List (UInt8)) × ((List (UInt8)) × (((Int) × ((Int) × ((Int) × (Unit)))) × (Unit))))) × (Int) → Option ((Int) × ((Int) × ((Int) × (Unit))))) (a0 : List ((List (UInt8)) × ((List (UInt8)) × (((Int) × ((Int) × ((Int) × (Unit)))) × (Unit))))) (a1 : Int) : Go.Lf.fnE (folioref06_wholeCtx self) folioref06_wholeCode folioref06_wholeAnn [.val (.sl (.st (.pr .str (.pr .str (.pr (.st (.pr (.int .i64) (.pr (.int .i64) (.pr (.int .i64) .unit)))) .unit))))), .val (.int .i64)] [(.st (.pr (.int .i64) (.pr (.int .i64) (.pr (.int .i64) .unit))))] [.cell 4 27] (a0, a1) = folioref06_wholeB self a0 a1 := by kernel_rfl
noncomputable def folioref06_wholeN : Nat → (List ((List (UInt8)) × ((List (UInt8)) × (((Int) × ((Int) × ((Int) × (Unit)))) × (Unit))))) × (Int) → Option ((Int) × ((Int) × ((Int) × (Unit))))
 | 0 => fun _ => none
 | n + 1 => fun z => folioref06_wholeB (folioref06_wholeN n) z.1 z.2
noncomputable def folioref06_whole (a0 : List ((List (UInt8)) × ((List (UInt8)) × (((Int) × ((Int) × ((Int) × (Unit)))) × (Unit))))) (a1 : Int) : Option ((Int) × ((Int) × ((Int) × (Unit)))) := Go.Lf.supC fun n => folioref06_wholeN n (a0, a1)
noncomputable def folioref06_wholeEnt : Nat × Go.Lf.Entry := (43, ⟨[.val (.sl (.st (.pr .str (.pr .str (.pr (.st (.pr (.int .i64) (.pr (.int .i64) (.pr (.int .i64) .unit)))) .unit))))), .val (.int .i64)], [(.st (.pr (.int .i64) (.pr (.int .i64) (.pr (.int .i64) .unit))))], fun z => folioref06_whole z.1 z.2⟩)
theorem folioref06_whole_ok : Go.Lf.EntryOk Go.Proofs.Tryd.prog GG 43 folioref06_wholeEnt.2 :=
  Go.Lf.rec_ok (ps := [.val (.sl (.st (.pr .str (.pr .str (.pr (.st (.pr (.int .i64) (.pr (.int .i64) (.pr (.int .i64) .unit)))) .unit))))), .val (.int .i64)]) (rs := [(.st (.pr (.int .i64) (.pr (.int .i64) (.pr (.int .i64) .unit))))]) (N := folioref06_wholeN) Go.Proofs.Tryd.f43 (by kernel_rfl) (by kernel_rfl) (by kernel_rfl) (by simp [Go.Lf.Ty.top]) (fun _ => rfl) fun n ih => Go.Lf.fn_ok (c := folioref06_wholeCtx (folioref06_wholeN n)) (code := folioref06_wholeCode) (an := folioref06_wholeAnn) (slots := [.cell 4 27]) (fn := Go.Proofs.Tryd.f43) (by kernel_rfl) ⟨Tys2_ok, Go.Lf.FnsOk.look (.con folioref06_Find_ok (.con folioref06_Then_ok (.cons ih (.con folioref06_None_ok .nil))))⟩ (by kernel_rfl) (by kernel_rfl) (by kernel_rfl) (by kernel_rfl) (by kernel_rfl) (Nat.le_of_ble_eq_true rfl) (by simp [Go.Lf.Ty.top]) (by simp [Go.Lf.Ty.top]) fun z r h => (folioref06_whole_eq (folioref06_wholeN n) z.1 z.2).trans h
noncomputable def folioref06_WholeCtx : Go.Lf.Ctx := ⟨31, Tys2, [folioref06_CheckEnt, folioref06_FindEnt, folioref06_wholeEnt], [10], [], []⟩
noncomputable def folioref06_WholeCode : Go.Code := (Go.Proofs.Tryd.f28.body).getD .skip
def folioref06_WholeAnn : Go.Lf.Ann := .no
noncomputable def folioref06_Whole (a0 : List ((List (UInt8)) × ((List (UInt8)) × (((Int) × ((Int) × ((Int) × (Unit)))) × (Unit))))) (a1 : List (UInt8)) : Option (((Int) × ((Int) × ((Int) × (Unit)))) × (Int)) :=
 ((Go.Fn.folioref06_Check a0)).bind fun r1 =>
 bif (decide ((r1.2 : Int) ≠ (0 : Int))) then some (((0 : Int), ((0 : Int), ((0 : Int), ()))), r1.2)
 else ((Go.Fn.folioref06_Find a0 a1)).bind fun r2 =>
 bif (!r2.2) then some (((0 : Int), ((0 : Int), ((0 : Int), ()))), (66 : Int))
 else ((Go.Fn.folioref06_whole a0 r2.1)).bind fun r3 =>
 some (r3, (0 : Int))
theorem folioref06_Whole_eq (a0 : List ((List (UInt8)) × ((List (UInt8)) × (((Int) × ((Int) × ((Int) × (Unit)))) × (Unit))))) (a1 : List (UInt8)) : Go.Lf.fnE folioref06_WholeCtx folioref06_WholeCode folioref06_WholeAnn [.val (.sl (.st (.pr .str (.pr .str (.pr (.st (.pr (.int .i64) (.pr (.int .i64) (.pr (.int .i64) .unit)))) .unit))))), .val .str] [(.st (.pr (.int .i64) (.pr (.int .i64) (.pr (.int .i64) .unit)))), (.int .i64)] [.cell 4 27, .tmp 5] (a0, a1) = folioref06_Whole a0 a1 := by kernel_rfl
noncomputable def folioref06_WholeEnt : Nat × Go.Lf.Entry := (28, ⟨[.val (.sl (.st (.pr .str (.pr .str (.pr (.st (.pr (.int .i64) (.pr (.int .i64) (.pr (.int .i64) .unit)))) .unit))))), .val .str], [(.st (.pr (.int .i64) (.pr (.int .i64) (.pr (.int .i64) .unit)))), (.int .i64)], fun z => folioref06_Whole z.1 z.2⟩)
theorem folioref06_Whole_ok : Go.Lf.EntryOk Go.Proofs.Tryd.prog GG 28 folioref06_WholeEnt.2 :=
  Go.Lf.fn_ok (c := folioref06_WholeCtx) (code := folioref06_WholeCode) (an := folioref06_WholeAnn) (slots := [.cell 4 27, .tmp 5]) (fn := Go.Proofs.Tryd.f28) (by kernel_rfl) ⟨Tys2_ok, Go.Lf.FnsOk.look (.con folioref06_Check_ok (.con folioref06_Find_ok (.con folioref06_whole_ok .nil)))⟩ (by kernel_rfl) (by kernel_rfl) (by kernel_rfl) (by kernel_rfl) (by kernel_rfl) (Nat.le_of_ble_eq_true rfl) (by simp [Go.Lf.Ty.top]) (by simp [Go.Lf.Ty.top]) fun z r h => (folioref06_Whole_eq z.1 z.2).trans h
noncomputable def folioref06_PlainCtx : Go.Lf.Ctx := ⟨2, Tys2, [], [], [], []⟩
noncomputable def folioref06_PlainCode : Go.Code := (Go.Proofs.Tryd.f44.body).getD .skip
def folioref06_PlainAnn : Go.Lf.Ann := .no
noncomputable def folioref06_Plain  : Option ((Int) × ((Int) × (Unit))) :=
 some ((0 : Int), ((7 : Int), ()))
theorem folioref06_Plain_eq  : Go.Lf.fnE folioref06_PlainCtx folioref06_PlainCode folioref06_PlainAnn [] [(.st (.pr (.int .i64) (.pr (.int .i64) .unit)))] [.cell 0 40] () = folioref06_Plain  := by kernel_rfl
noncomputable def folioref06_PlainEnt : Nat × Go.Lf.Entry := (44, ⟨[], [(.st (.pr (.int .i64) (.pr (.int .i64) .unit)))], fun _ => folioref06_Plain ⟩)
theorem folioref06_Plain_ok : Go.Lf.EntryOk Go.Proofs.Tryd.prog GG 44 folioref06_PlainEnt.2 :=
  Go.Lf.fn_ok (c := folioref06_PlainCtx) (code := folioref06_PlainCode) (an := folioref06_PlainAnn) (slots := [.cell 0 40]) (fn := Go.Proofs.Tryd.f44) (by kernel_rfl) ⟨Tys2_ok, Go.Lf.FnsOk.look .nil⟩ (by kernel_rfl) (by kernel_rfl) (by kernel_rfl) (by kernel_rfl) (by kernel_rfl) (Nat.le_of_ble_eq_true rfl) (by simp [Go.Lf.Ty.top]) (by simp [Go.Lf.Ty.top]) fun z r h => (folioref06_Plain_eq ).trans h
noncomputable def folioref06_NestCtx : Go.Lf.Ctx := ⟨52, Tys2, [folioref06_CheckEnt, folioref06_FindEnt, folioref06_ApplyEnt, folioref06_wholeEnt, folioref06_PlainEnt], [13], [], []⟩
noncomputable def folioref06_NestCode : Go.Code := (Go.Proofs.Tryd.f30.body).getD .skip
def folioref06_NestAnn : Go.Lf.Ann := (.seq .no (.seq .no (.seq .no (.seq .no (.seq (.seq .no (.loop ⟨[0, 1], [(4, 4, [], 0), (9, 9, [], 0)], [(10, (.int .i64))], [(4, 40, (.st (.pr (.int .i64) (.pr (.int .i64) .unit)))), (9, 40, (.st (.pr (.int .i64) (.pr (.int .i64) .unit))))]⟩ (.more (.ext 0) ⟨[], [(4, 4, [], 0), (9, 9, [], 0)], [], [(4, 40, (.st (.pr (.int .i64) (.pr (.int .i64) .unit)))), (9, 40, (.st (.pr (.int .i64) (.pr (.int .i64) .unit))))]⟩ (.one .ret ⟨[], [(4, 4, [], 0)], [(5, (.int .i64)), (6, (.int .i64))], [(4, 40, (.st (.pr (.int .i64) (.pr (.int .i64) .unit))))]⟩)) (.seq .no (.seq (.seq .no (.seq .no (.draw 5))) .no)))) .no)))))
noncomputable def folioref06_Nest (a0 : List ((List (UInt8)) × ((List (UInt8)) × (((Int) × ((Int) × ((Int) × (Unit)))) × (Unit))))) (a1 : List (List (UInt8))) : Option (((Int) × ((Int) × (Unit))) × ((Int) × (Int))) :=
 ((Go.Fn.folioref06_Check a0)).bind fun r1 =>
 bif (decide ((r1.2 : Int) ≠ (0 : Int))) then some (((0 : Int), ((0 : Int), ())), ((0 : Int), r1.2))
 else bif (decide ((32 : Int) < (((List.length a1) : Nat) : Int))) then some (((0 : Int), ((0 : Int), ())), ((0 : Int), (2 : Int)))
 else (Go.Fn.folioref06_Plain).bind fun r2 =>
 (Go.Lf.loopC (σ := (Int) × (((Int) × ((Int) × (Unit))) × ((Int) × ((Int) × (Unit))))) (κ := (((Int) × ((Int) × (Unit))) × ((Int) × ((Int) × (Unit)))) ⊕ ((Int) × ((Int) × ((Int) × ((Int) × (Unit)))))) (fun z3 =>
     bif (decide (z3.1 < (((List.length a1) : Nat) : Int))) then ((Go.Lf.idx a1 z3.1)).bind fun r4 =>
     ((Go.Fn.folioref06_Find a0 r4)).bind fun r5 =>
     bif (!r5.2) then some (.inr (.inr (z3.1, ((66 : Int), ((0 : Int), ((0 : Int), ()))))))
     else ((Go.Fn.folioref06_whole a0 r5.1)).bind fun r6 =>
     ((Go.Fn.folioref06_Apply z3.2.2 r6)).bind fun r7 =>
     some (.inl ((Go.IntKind.wrap .i64 (z3.1 + (1 : Int))), (z3.2.1, r7)))
     else some (.inr (.inl (z3.2.1, z3.2.2)))) ((0 : Int), (((0 : Int), ((0 : Int), ())), r2)) : Option ((((Int) × ((Int) × (Unit))) × ((Int) × ((Int) × (Unit)))) ⊕ ((Int) × ((Int) × ((Int) × ((Int) × (Unit))))))).bind fun r8 =>
 Go.Lf.onSum r8 (fun a9 =>
 some (a9.2, ((0 : Int), (0 : Int)))) (fun b10 =>
 some (b10.2.2, (b10.1, b10.2.1)))
theorem folioref06_Nest_eq (a0 : List ((List (UInt8)) × ((List (UInt8)) × (((Int) × ((Int) × ((Int) × (Unit)))) × (Unit))))) (a1 : List (List (UInt8))) : Go.Lf.fnE folioref06_NestCtx folioref06_NestCode folioref06_NestAnn [.val (.sl (.st (.pr .str (.pr .str (.pr (.st (.pr (.int .i64) (.pr (.int .i64) (.pr (.int .i64) .unit)))) .unit))))), .val (.sl .str)] [(.st (.pr (.int .i64) (.pr (.int .i64) .unit))), (.int .i64), (.int .i64)] [.cell 4 40, .tmp 5, .tmp 6] (a0, a1) = folioref06_Nest a0 a1 := by kernel_rfl
noncomputable def folioref06_NestEnt : Nat × Go.Lf.Entry := (30, ⟨[.val (.sl (.st (.pr .str (.pr .str (.pr (.st (.pr (.int .i64) (.pr (.int .i64) (.pr (.int .i64) .unit)))) .unit))))), .val (.sl .str)], [(.st (.pr (.int .i64) (.pr (.int .i64) .unit))), (.int .i64), (.int .i64)], fun z => folioref06_Nest z.1 z.2⟩)
theorem folioref06_Nest_ok : Go.Lf.EntryOk Go.Proofs.Tryd.prog GG 30 folioref06_NestEnt.2 :=
  Go.Lf.fn_ok (c := folioref06_NestCtx) (code := folioref06_NestCode) (an := folioref06_NestAnn) (slots := [.cell 4 40, .tmp 5, .tmp 6]) (fn := Go.Proofs.Tryd.f30) (by kernel_rfl) ⟨Tys2_ok, Go.Lf.FnsOk.look (.con folioref06_Check_ok (.con folioref06_Find_ok (.con folioref06_Apply_ok (.con folioref06_whole_ok (.con folioref06_Plain_ok .nil)))))⟩ (by kernel_rfl) (by kernel_rfl) (by kernel_rfl) (by kernel_rfl) (by kernel_rfl) (Nat.le_of_ble_eq_true rfl) (by simp [Go.Lf.Ty.top]) (by simp [Go.Lf.Ty.top]) fun z r h => (folioref06_Nest_eq z.1 z.2).trans h
end Go.Fn
/-
  Loops over lists, plainly.
-/
namespace Go.Lf
open Go

theorem wrap64 {x : Int} (h0 : -9223372036854775808 ≤ x) (h1 : x ≤ 9223372036854775807) : IntKind.wrap .i64 x = x := by
  simp only [IntKind.wrap]
  simp [IntKind.bits, IntKind.signed]
  omega
theorem wrapS {n : Nat} (h : n < 9223372036854775807) : IntKind.wrap .i64 ((n : Int) + 1) = ((n + 1 : Nat) : Int) := by
  rw [wrap64 (by omega) (by omega)]; omega
theorem idx_nat {α : Type} (l : List α) (i : Nat) : idx l (i : Int) = l[i]? := by
  unfold idx
  rw [if_pos (by omega)]; rfl
theorem sub_nat {α : Type} {l : List α} {a b : Nat} (h : a ≤ b) (hb : b ≤ l.length) : sub l (a : Int) (b : Int) = some ((l.drop a).take (b - a)) := by
  unfold sub
  rw [if_pos (by omega)]; rfl
theorem app_of {α : Type} {b : Nat} {l m : List α} (h : (l.length + m.length) * b ≤ 140737488355328) : app b l m = some (l ++ m) := if_pos h
theorem cat_of {l m : List UInt8} (h : l.length + m.length ≤ 9223372036854775807) : cat l m = some (l ++ m) := if_pos h
section
variable {α σ κ : Type}
/-- a list, one by one -/
def foldE (step : α → σ → Option (σ ⊕ κ)) (fin : σ → κ) : List α → σ → Option κ
  | [], s => some (fin s)
  | x :: r, s => (step x s).bind fun d => onSum d (foldE step fin r) some
theorem range_loop {l : List α} {B : Int × σ → Option ((Int × σ) ⊕ κ)} (step : α → σ → Option (σ ⊕ κ)) (fin : σ → κ)
    (h1 : ∀ (i : Nat) x s, l[i]? = some x → B ((i : Int), s) = (step x s).map fun d => onSum d (fun s' => .inl (((i + 1 : Nat) : Int), s')) .inr) (h2 : ∀ s, B ((l.length : Int), s) = some (.inr (fin s))) :
    ∀ (m i : Nat) (s : σ), i + m = l.length → loopC B ((i : Int), s) = foldE step fin (l.drop i) s
  | 0, i, s, h => by
    have : i = l.length := by omega
    subst this
    rw [loopC_step, h2, List.drop_length]
    rfl
  | m + 1, i, s, h => by
    have hlt : i < l.length := by omega
    rw [loopC_step, h1 i l[i] s (List.getElem?_eq_getElem hlt), List.drop_eq_getElem_cons hlt]
    unfold foldE
    cases step l[i] s with
    | none => rfl
    | some d =>
      cases d with
      | inl s' => exact range_loop step fin h1 h2 m (i + 1) s' (by omega)
      | inr k => rfl
/-- a list, one by one, with the elements' numbers -/
def foldI (step : Nat → α → σ → Option (σ ⊕ κ)) (fin : σ → κ) : Nat → List α → σ → Option κ
  | _, [], s => some (fin s)
  | i, x :: r, s => (step i x s).bind fun d => onSum d (foldI step fin (i + 1) r) some
theorem range_loopI {l : List α} {B : Int × σ → Option ((Int × σ) ⊕ κ)} (step : Nat → α → σ → Option (σ ⊕ κ)) (fin : σ → κ)
    (h1 : ∀ (i : Nat) x s, l[i]? = some x → B ((i : Int), s) = (step i x s).map fun d => onSum d (fun s' => .inl (((i + 1 : Nat) : Int), s')) .inr) (h2 : ∀ s, B ((l.length : Int), s) = some (.inr (fin s))) :
    ∀ (m i : Nat) (s : σ), i + m = l.length → loopC B ((i : Int), s) = foldI step fin i (l.drop i) s
  | 0, i, s, h => by
    have : i = l.length := by omega
    subst this
    rw [loopC_step, h2, List.drop_length]
    rfl
  | m + 1, i, s, h => by
    have hlt : i < l.length := by omega
    rw [loopC_step, h1 i l[i] s (List.getElem?_eq_getElem hlt), List.drop_eq_getElem_cons hlt]
    unfold foldI
    cases step i l[i] s with
    | none => rfl
    | some d =>
      cases d with
      | inl s' => exact range_loopI step fin h1 h2 m (i + 1) s' (by omega)
      | inr k => rfl
theorem range_loopI0 {l : List α} {B : Int → Option (Int ⊕ κ)} (step : Nat → α → Option (Unit ⊕ κ)) (fin : κ)
    (h1 : ∀ (i : Nat) x, l[i]? = some x → B (i : Int) = (step i x).map fun d => onSum d (fun _ => .inl ((i + 1 : Nat) : Int)) .inr) (h2 : B (l.length : Int) = some (.inr fin)) :
    ∀ (m i : Nat), i + m = l.length → loopC B (i : Int) = foldI (fun i x (_ : Unit) => step i x) (fun _ => fin) i (l.drop i) ()
  | 0, i, h => by
    have : i = l.length := by omega
    subst this
    rw [loopC_step, h2, List.drop_length]
    rfl
  | m + 1, i, h => by
    have hlt : i < l.length := by omega
    rw [loopC_step, h1 i l[i] (List.getElem?_eq_getElem hlt), List.drop_eq_getElem_cons hlt]
    unfold foldI
    cases step i l[i] with
    | none => rfl
    | some d =>
      cases d with
      | inl s' => exact range_loopI0 step fin h1 h2 m (i + 1) (by omega)
      | inr k => rfl
/-- the same of a loop whose state is the number alone -/
theorem range_loop0 {l : List α} {B : Int → Option (Int ⊕ κ)} (step : α → Option (Unit ⊕ κ)) (fin : κ)
    (h1 : ∀ (i : Nat) x, l[i]? = some x → B (i : Int) = (step x).map fun d => onSum d (fun _ => .inl ((i + 1 : Nat) : Int)) .inr) (h2 : B (l.length : Int) = some (.inr fin)) :
    ∀ (m i : Nat), i + m = l.length → loopC B (i : Int) = foldE (fun x (_ : Unit) => step x) (fun _ => fin) (l.drop i) ()
  | 0, i, h => by
    have : i = l.length := by omega
    subst this
    rw [loopC_step, h2, List.drop_length]
    rfl
  | m + 1, i, h => by
    have hlt : i < l.length := by omega
    rw [loopC_step, h1 i l[i] (List.getElem?_eq_getElem hlt), List.drop_eq_getElem_cons hlt]
    unfold foldE
    cases step l[i] with
    | none => rfl
    | some d =>
      cases d with
      | inl s' => exact range_loop0 step fin h1 h2 m (i + 1) (by omega)
      | inr k => rfl
end
end Go.Lf
/- Chapter 6, plainly: names, colours, attributes. -/
namespace Go.Fn
open Go Go.Lf

abbrev Bs := List UInt8
def low (b : UInt8) : Bool := decide (97 ≤ b.toNat) && decide (b.toNat ≤ 122)
def okName (s : Bs) : Bool := decide (1 ≤ s.length) && decide (s.length ≤ 12) && s.all low
def lowStep (b : UInt8) : Option (Unit ⊕ (Unit ⊕ Bool)) := if low b then some (.inl ()) else some (.inr (.inr false))
theorem low_fold : ∀ s : Bs, foldE (fun x (_ : Unit) => lowStep x) (fun _ => (.inl () : Unit ⊕ Bool)) s () = some (if s.all low then .inl () else .inr false)
  | [] => rfl
  | b :: r => by
    unfold foldE
    have ih := low_fold r
    unfold lowStep
    cases hb : low b with
    | true => simp only [if_true, Option.bind_some, onSum, List.all_cons, hb, Bool.true_and]; exact ih
    | false => simp [onSum, List.all_cons, hb]
theorem low_loop (s : Bs) (hs : s.length < 9223372036854775807) (B : Int → Option (Int ⊕ (Unit ⊕ Bool)))
    (hB : ∀ z1, B z1 = (bif (decide (z1 < (((List.length s) : Nat) : Int))) then (((Go.Lf.idx s z1)).bind fun r2 =>
       bif (!(decide ((((UInt8.toNat r2) : Nat) : Int) < (97 : Int)))) then ((Go.Lf.idx s z1)).bind fun r3 =>
       some (decide ((122 : Int) < (((UInt8.toNat r3) : Nat) : Int)))
       else some true).bind fun r4 =>
     bif r4 then some (.inr (.inr false))
     else some (.inl (Go.IntKind.wrap .i64 (z1 + (1 : Int))))
     else some (.inr (.inl ())))) : loopC B 0 = some (if s.all low then .inl () else .inr false) := by
  have := range_loop0 (l := s) (B := B) lowStep (.inl ()) (fun i x hx => by
    have hlt : i < s.length := (List.getElem?_eq_some_iff.1 hx).1
    rw [hB, idx_nat, hx, wrapS (by omega)]
    unfold lowStep low
    have e0 : ((i : Int) < (s.length : Int)) := by omega
    by_cases h1 : (x.toNat : Int) < 97
    · have h3 : ¬ (97 ≤ x.toNat) := by omega
      simp [e0, hlt, h1, h3, onSum]
    · have h3 : 97 ≤ x.toNat := by omega
      by_cases h2 : (122 : Int) < x.toNat
      · have h4 : ¬ (x.toNat ≤ 122) := by omega
        simp [e0, hlt, h1, h2, h3, h4, onSum]
      · have h4 : x.toNat ≤ 122 := by omega
        simp [e0, hlt, h1, h2, h3, h4, onSum]) (by rw [hB]; simp) s.length 0 (by omega)
  rw [List.drop_zero, low_fold] at this
  exact this
theorem named_eq (s : Bs) (hs : s.length < 9223372036854775807) : style_named s = some (okName s) := by
  unfold style_named okName
  by_cases h1 : (s.length : Int) < 1
  · have : ¬ (1 ≤ s.length) := by omega
    simp [h1, this]
  · have h3 : 1 ≤ s.length := by omega
    by_cases h2 : (12 : Int) < s.length
    · have : ¬ (s.length ≤ 12) := by omega
      simp [h1, h2, this]
    · have h4 : s.length ≤ 12 := by omega
      rw [low_loop s hs _ (fun _ => rfl)]
      cases h5 : s.all low <;> simp [h1, h2, h3, h4, onSum]
theorem rname_eq (s : Bs) (hs : s.length < 9223372036854775807) : folioref06_Name s = some (okName s) := by
  unfold folioref06_Name okName
  rw [low_loop s hs _ (fun _ => rfl)]
  by_cases h1 : (1 : Int) ≤ s.length
  · have h3 : 1 ≤ s.length := by omega
    by_cases h2 : (s.length : Int) ≤ 12
    · have h4 : s.length ≤ 12 := by omega
      cases h5 : s.all low <;> simp [h1, h2, h3, h4, onSum]
    · have h4 : ¬ s.length ≤ 12 := by omega
      cases h5 : s.all low <;> simp [h1, h2, h3, h4, onSum]
  · have h3 : ¬ 1 ≤ s.length := by omega
    cases h5 : s.all low <;> simp [h1, h3, onSum]
end Go.Fn
/- Chapter 6, plainly: colours, attributes. -/
namespace Go.Fn
open Go Go.Lf

def isCol (w : Bs) (n : Nat) : Bool := decide (Lib.itoa (n : Int) = w)
def colS (w : Bs) : Option Nat := (List.range 16).find? (isCol w)
theorem itoa_back : ∀ n : Nat, n < 16 → Lib.atoiAll (Lib.itoa (n : Int)) = .ok (n : Int) := by
  have h : ((List.range 16).all fun n => match Lib.atoiAll (Lib.itoa (n : Int)) with | .ok v => decide (v = (n : Int)) | _ => false) = true := by kernel_rfl
  intro n hn
  have h1 := List.all_eq_true.1 h n (List.mem_range.2 hn)
  split at h1
  · rename_i v hv
    rw [hv, of_decide_eq_true h1]
  · cases h1
theorem colS_some {w : Bs} {n : Nat} (h : colS w = some n) : n < 16 ∧ Lib.itoa (n : Int) = w :=
  ⟨List.mem_range.1 (List.mem_of_find?_eq_some h), of_decide_eq_true (show decide (Lib.itoa (n : Int) = w) = true from List.find?_some (p := isCol w) h)⟩
theorem colS_of {w : Bs} {n : Nat} (hn : n < 16) (h : Lib.itoa (n : Int) = w) : colS w = some n := by
  cases hc : colS w with
  | none =>
    have := List.find?_eq_none.1 hc n (List.mem_range.2 hn)
    exact absurd (decide_eq_true h) this
  | some m =>
    obtain ⟨h1, h2⟩ := colS_some hc
    have e1 := itoa_back n hn
    have e2 := itoa_back m h1
    rw [h] at e1
    rw [h2, e1] at e2
    injection e2 with e2
    congr 1
    omega
theorem rcolor_eq (w : Bs) : folioref06_color w = some (match colS w with | some n => ((n : Int), true) | none => (0, false)) := by
  unfold folioref06_color
  have h := range_loop0 (l := List.range 16) (κ := Unit ⊕ (Int × Bool)) (B := fun z1 => bif (decide (z1 ≤ (15 : Int))) then ((Go.Fn.strconv_Itoa z1)).bind fun r2 =>
     bif (decide ((r2 : List (UInt8)) = w)) then some (.inr (.inr (z1, true)))
     else some (.inl (Go.IntKind.wrap .i64 (z1 + (1 : Int))))
     else some (.inr (.inl ()))) (fun n => if isCol w n then some (.inr (.inr ((n : Int), true))) else some (.inl ())) (.inl ()) (fun i x hx => by
      have hlt : i < 16 := by simpa using (List.getElem?_eq_some_iff.1 hx).1
      have hxi : x = i := by
        have := (List.getElem?_eq_some_iff.1 hx).2
        simpa using this.symm
      subst hxi
      have e1 : (x : Int) ≤ 15 := by omega
      have e2 : -9223372036854775808 ≤ (x : Int) ∧ (x : Int) ≤ 9223372036854775807 := by omega
      unfold isCol strconv_Itoa
      by_cases hw : Lib.itoa (x : Int) = w
      · simp [e1, e2, hw, onSum]
      · simp [e1, e2, hw, onSum]
        rw [wrapS (by omega)]; rfl) (by simp) 16 0 (by simp)
  rw [List.drop_zero] at h
  have key : ∀ l : List Nat, foldE (fun n (_ : Unit) => if isCol w n then some (.inr (.inr ((n : Int), true))) else some (.inl ())) (fun _ => (.inl () : Unit ⊕ (Int × Bool))) l () = some (match l.find? (isCol w) with | some n => .inr ((n : Int), true) | none => .inl ()) := fun l => by
    induction l with
    | nil => rfl
    | cons x r ih =>
      unfold foldE
      cases hx : isCol w x with
      | true => simp [onSum, List.find?_cons, hx]
      | false =>
        simp only [hx, Bool.false_eq_true, if_false, Option.bind_some, onSum, List.find?_cons]
        exact ih
  rw [key] at h
  have h : loopC _ (0 : Int) = _ := h
  rw [h]
  unfold colS
  cases (List.range 16).find? (isCol w) <;> rfl
theorem scolor_nil : style_color [] = some (0, false) := by unfold style_color; simp
theorem scolor_eq (w : Bs) (r : List Bs) (hw : w.length ≤ 140737488355328) : ∃ n, style_color (w :: r) = some (n, (colS w).isSome) ∧ ∀ m, colS w = some m → n = (m : Int) := by
  unfold style_color strconv_Atoi
  have e0 : (((w :: r).length : Int) = 0) = False := by simp; omega
  have hi : idx (w :: r) 0 = some w := rfl
  simp only [e0, decide_false, cond_false, hi, Option.bind_some, if_pos hw]
  cases h : Lib.atoiAll w with
  | ok v =>
    refine ⟨v, ?_, fun m hm => ?_⟩
    · simp only [Option.isNone_none, cond_true]
      by_cases h1 : 0 ≤ v
      · by_cases h2 : v ≤ 15
        · have e2 : -9223372036854775808 ≤ v ∧ v ≤ 9223372036854775807 := by omega
          simp only [h1, h2, decide_true, cond_true, strconv_Itoa, if_pos e2, Option.bind_some]
          congr 2
          by_cases h3 : Lib.itoa v = w
          · have : colS w = some v.toNat := colS_of (by omega) (by rw [Int.toNat_of_nonneg h1]; exact h3)
            simp [h3, this]
          · cases hc : colS w with
            | none => simp [h3]
            | some m =>
              obtain ⟨g1, g2⟩ := colS_some hc
              have := itoa_back m g1
              rw [g2, h] at this
              injection this with this
              rw [← this] at g2
              exact absurd g2 h3
        · cases hc : colS w with
          | none => simp [h1, h2]
          | some m =>
            obtain ⟨g1, g2⟩ := colS_some hc
            have := itoa_back m g1
            rw [g2, h] at this
            injection this with this
            omega
      · cases hc : colS w with
        | none => simp [h1]
        | some m =>
          obtain ⟨g1, g2⟩ := colS_some hc
          have := itoa_back m g1
          rw [g2, h] at this
          injection this with this
          omega
    · obtain ⟨g1, g2⟩ := colS_some hm
      have := itoa_back m g1
      rw [g2, h] at this
      injection this
  | range =>
    have hn : colS w = none := by
      cases hc : colS w with
      | none => rfl
      | some m =>
        obtain ⟨g1, g2⟩ := colS_some hc
        have := itoa_back m g1
        rw [g2, h] at this
        cases this
    exact ⟨Lib.atoiSat w, by simp [hn], fun m hm => by rw [hn] at hm; cases hm⟩
  | _ =>
    have hn : colS w = none := by
      cases hc : colS w with
      | none => rfl
      | some m =>
        obtain ⟨g1, g2⟩ := colS_some hc
        have := itoa_back m g1
        rw [g2, h] at this
        cases this
    exact ⟨0, by simp [hn], fun m hm => by rw [hn] at hm; cases hm⟩
end Go.Fn
