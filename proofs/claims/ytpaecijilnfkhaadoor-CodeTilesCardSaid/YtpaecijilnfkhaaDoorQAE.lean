/- Parts of the proof. -/
import Derived.Test.YtpaecijilnfkhaaDoorProg
import Derived.KernelRfl
import Derived.Test.YtpaecijilnfkhaaDoorQAD
import Derived.Lib.ItoaLen
import Derived.Lib.AtoiTie
import Derived.Lib.SplitLaws
open Go Go.Lf
set_option maxRecDepth 10000
namespace Go.Fn
def Tys : List (Nat × Go.Lf.TyI) := [(2, ⟨(.int .i64), 0, 0⟩),
 (3, ⟨(.int .i64), 0, 0⟩),
 (4, ⟨.bool, 0, 0⟩),
 (5, ⟨(.int .u8), 0, 0⟩),
 (6, ⟨(.int .u8), 0, 0⟩),
 (7, ⟨(.st (.pr (.int .i64) (.pr (.int .i64) (.pr .bool (.pr (.int .u8) .unit))))), 0, 0⟩),
 (8, ⟨(.st (.pr (.int .i64) (.pr (.int .i64) (.pr .bool (.pr (.int .u8) .unit))))), 0, 0⟩),
 (9, ⟨.str, 0, 0⟩),
 (10, ⟨.str, 0, 0⟩),
 (11, ⟨.str, 0, 0⟩),
 (12, ⟨(.int .u64), 0, 0⟩),
 (13, ⟨(.st (.pr .str (.pr (.int .u64) .unit))), 0, 0⟩),
 (14, ⟨(.st (.pr .str (.pr (.int .u64) .unit))), 0, 0⟩),
 (21, ⟨(.int .i32), 0, 0⟩),
 (22, ⟨(.sl (.int .u8)), 5, 1⟩),
 (24, ⟨(.int .i64), 0, 0⟩),
 (30, ⟨(.st (.pr (.int .i64) (.pr (.int .i64) (.pr (.int .i64) (.pr (.int .i64) (.pr (.int .i64) .unit)))))), 0, 0⟩),
 (31, ⟨(.st (.pr (.int .i64) (.pr (.int .i64) (.pr (.int .i64) (.pr (.int .i64) (.pr (.int .i64) .unit)))))), 0, 0⟩),
 (37, ⟨(.sl (.int .i64)), 3, 8⟩),
 (44, ⟨(.sl (.st (.pr (.int .i64) (.pr (.int .i64) .unit)))), 93, 16⟩),
 (47, ⟨(.sl (.st (.pr (.int .i64) (.pr (.int .i64) (.pr .str (.pr (.sl (.int .i64)) .unit)))))), 95, 56⟩),
 (57, ⟨(.int .i64), 0, 0⟩),
 (58, ⟨(.st (.pr (.int .i64) (.pr (.int .i64) (.pr (.int .i64) (.pr (.int .i64) (.pr (.sl (.int .i64)) .unit)))))), 0, 0⟩),
 (59, ⟨(.st (.pr (.int .i64) (.pr (.int .i64) (.pr (.int .i64) (.pr (.int .i64) (.pr (.sl (.int .i64)) .unit)))))), 0, 0⟩),
 (65, ⟨(.sl (.st (.pr (.int .i64) (.pr (.int .i64) (.pr (.int .i64) (.pr (.int .i64) (.pr (.sl (.int .i64)) .unit))))))), 59, 56⟩),
 (76, ⟨(.sl .str), 9, 16⟩),
 (92, ⟨(.st (.pr (.int .i64) (.pr (.int .i64) .unit))), 0, 0⟩),
 (93, ⟨(.st (.pr (.int .i64) (.pr (.int .i64) .unit))), 0, 0⟩),
 (94, ⟨(.st (.pr (.int .i64) (.pr (.int .i64) (.pr .str (.pr (.sl (.int .i64)) .unit))))), 0, 0⟩),
 (95, ⟨(.st (.pr (.int .i64) (.pr (.int .i64) (.pr .str (.pr (.sl (.int .i64)) .unit))))), 0, 0⟩),
 (97, ⟨(.sl .bool), 4, 1⟩),
 (98, ⟨(.sl (.st (.pr .bool (.pr (.int .i64) (.pr (.int .i64) (.pr (.int .i64) (.pr (.int .i64) .unit))))))), 159, 40⟩),
 (99, ⟨(.st (.pr .bool (.pr (.sl .bool) (.pr (.sl (.st (.pr .bool (.pr (.int .i64) (.pr (.int .i64) (.pr (.int .i64) (.pr (.int .i64) .unit))))))) (.pr .bool .unit))))), 0, 0⟩),
 (100, ⟨(.st (.pr .bool (.pr (.sl .bool) (.pr (.sl (.st (.pr .bool (.pr (.int .i64) (.pr (.int .i64) (.pr (.int .i64) (.pr (.int .i64) .unit))))))) (.pr .bool .unit))))), 0, 0⟩),
 (101, ⟨(.st (.pr (.st (.pr .bool (.pr (.sl .bool) (.pr (.sl (.st (.pr .bool (.pr (.int .i64) (.pr (.int .i64) (.pr (.int .i64) (.pr (.int .i64) .unit))))))) (.pr .bool .unit))))) .unit)), 0, 0⟩),
 (102, ⟨(.st (.pr (.st (.pr .bool (.pr (.sl .bool) (.pr (.sl (.st (.pr .bool (.pr (.int .i64) (.pr (.int .i64) (.pr (.int .i64) (.pr (.int .i64) .unit))))))) (.pr .bool .unit))))) .unit)), 0, 0⟩),
 (110, ⟨(.int .u64), 0, 0⟩),
 (113, ⟨(.int .u64), 0, 0⟩),
 (126, ⟨(.st (.pr (.int .i64) (.pr (.int .i64) (.pr (.int .i64) (.pr (.int .i64) (.pr (.int .i64) .unit)))))), 0, 0⟩),
 (127, ⟨(.st (.pr (.int .i64) (.pr (.int .i64) (.pr (.int .i64) (.pr (.int .i64) (.pr (.int .i64) .unit)))))), 0, 0⟩),
 (128, ⟨(.st (.pr (.st (.pr (.int .i64) (.pr (.int .i64) (.pr (.int .i64) (.pr (.int .i64) (.pr (.int .i64) .unit)))))) (.pr (.st (.pr (.int .i64) (.pr (.int .i64) (.pr (.int .i64) (.pr (.int .i64) (.pr (.int .i64) .unit)))))) (.pr (.st (.pr (.int .i64) (.pr (.int .i64) (.pr (.int .i64) (.pr (.int .i64) (.pr (.int .i64) .unit)))))) (.pr (.st (.pr (.int .i64) (.pr (.int .i64) (.pr (.int .i64) (.pr (.int .i64) (.pr (.int .i64) .unit)))))) (.pr (.st (.pr (.int .i64) (.pr (.int .i64) (.pr (.int .i64) (.pr (.int .i64) (.pr (.int .i64) .unit)))))) (.pr (.st (.pr (.int .i64) (.pr (.int .i64) (.pr (.int .i64) (.pr (.int .i64) (.pr (.int .i64) .unit)))))) (.pr (.st (.pr (.int .i64) (.pr (.int .i64) (.pr (.int .i64) (.pr (.int .i64) (.pr (.int .i64) .unit)))))) (.pr (.st (.pr (.int .i64) (.pr (.int .i64) (.pr (.int .i64) (.pr (.int .i64) (.pr (.int .i64) .unit)))))) (.pr (.st (.pr (.int .i64) (.pr (.int .i64) (.pr (.int .i64) (.pr (.int .i64) (.pr (.int .i64) .unit)))))) (.pr (.st (.pr (.int .i64) (.pr (.int .i64) (.pr (.int .i64) (.pr (.int .i64) (.pr (.int .i64) .unit)))))) (.pr (.st (.pr (.int .i64) (.pr (.int .i64) (.pr (.int .i64) (.pr (.int .i64) (.pr (.int .i64) .unit)))))) (.pr (.st (.pr (.int .i64) (.pr (.int .i64) (.pr (.int .i64) (.pr (.int .i64) (.pr (.int .i64) .unit)))))) (.pr (.st (.pr (.int .i64) (.pr (.int .i64) (.pr (.int .i64) (.pr (.int .i64) (.pr (.int .i64) .unit)))))) (.pr (.st (.pr (.int .i64) (.pr (.int .i64) (.pr (.int .i64) (.pr (.int .i64) (.pr (.int .i64) .unit)))))) (.pr (.st (.pr (.int .i64) (.pr (.int .i64) (.pr (.int .i64) (.pr (.int .i64) (.pr (.int .i64) .unit)))))) (.pr (.st (.pr (.int .i64) (.pr (.int .i64) (.pr (.int .i64) (.pr (.int .i64) (.pr (.int .i64) .unit)))))) (.pr (.st (.pr (.int .i64) (.pr (.int .i64) (.pr (.int .i64) (.pr (.int .i64) (.pr (.int .i64) .unit)))))) (.pr (.st (.pr (.int .i64) (.pr (.int .i64) (.pr (.int .i64) (.pr (.int .i64) (.pr (.int .i64) .unit)))))) (.pr (.st (.pr (.int .i64) (.pr (.int .i64) (.pr (.int .i64) (.pr (.int .i64) (.pr (.int .i64) .unit)))))) (.pr (.st (.pr (.int .i64) (.pr (.int .i64) (.pr (.int .i64) (.pr (.int .i64) (.pr (.int .i64) .unit)))))) (.pr (.st (.pr (.int .i64) (.pr (.int .i64) (.pr (.int .i64) (.pr (.int .i64) (.pr (.int .i64) .unit)))))) (.pr (.st (.pr (.int .i64) (.pr (.int .i64) (.pr (.int .i64) (.pr (.int .i64) (.pr (.int .i64) .unit)))))) (.pr (.st (.pr (.int .i64) (.pr (.int .i64) (.pr (.int .i64) (.pr (.int .i64) (.pr (.int .i64) .unit)))))) (.pr (.st (.pr (.int .i64) (.pr (.int .i64) (.pr (.int .i64) (.pr (.int .i64) (.pr (.int .i64) .unit)))))) (.pr (.st (.pr (.int .i64) (.pr (.int .i64) (.pr (.int .i64) (.pr (.int .i64) (.pr (.int .i64) .unit)))))) (.pr (.st (.pr (.int .i64) (.pr (.int .i64) (.pr (.int .i64) (.pr (.int .i64) (.pr (.int .i64) .unit)))))) (.pr (.st (.pr (.int .i64) (.pr (.int .i64) (.pr (.int .i64) (.pr (.int .i64) (.pr (.int .i64) .unit)))))) (.pr (.st (.pr (.int .i64) (.pr (.int .i64) (.pr (.int .i64) (.pr (.int .i64) (.pr (.int .i64) .unit)))))) (.pr (.st (.pr (.int .i64) (.pr (.int .i64) (.pr (.int .i64) (.pr (.int .i64) (.pr (.int .i64) .unit)))))) (.pr (.st (.pr (.int .i64) (.pr (.int .i64) (.pr (.int .i64) (.pr (.int .i64) (.pr (.int .i64) .unit)))))) (.pr (.st (.pr (.int .i64) (.pr (.int .i64) (.pr (.int .i64) (.pr (.int .i64) (.pr (.int .i64) .unit)))))) (.pr (.st (.pr (.int .i64) (.pr (.int .i64) (.pr (.int .i64) (.pr (.int .i64) (.pr (.int .i64) .unit)))))) .unit))))))))))))))))))))))))))))))))), 127, 32⟩),
 (129, ⟨(.st (.pr (.st (.pr (.st (.pr (.int .i64) (.pr (.int .i64) (.pr (.int .i64) (.pr (.int .i64) (.pr (.int .i64) .unit)))))) (.pr (.st (.pr (.int .i64) (.pr (.int .i64) (.pr (.int .i64) (.pr (.int .i64) (.pr (.int .i64) .unit)))))) (.pr (.st (.pr (.int .i64) (.pr (.int .i64) (.pr (.int .i64) (.pr (.int .i64) (.pr (.int .i64) .unit)))))) (.pr (.st (.pr (.int .i64) (.pr (.int .i64) (.pr (.int .i64) (.pr (.int .i64) (.pr (.int .i64) .unit)))))) (.pr (.st (.pr (.int .i64) (.pr (.int .i64) (.pr (.int .i64) (.pr (.int .i64) (.pr (.int .i64) .unit)))))) (.pr (.st (.pr (.int .i64) (.pr (.int .i64) (.pr (.int .i64) (.pr (.int .i64) (.pr (.int .i64) .unit)))))) (.pr (.st (.pr (.int .i64) (.pr (.int .i64) (.pr (.int .i64) (.pr (.int .i64) (.pr (.int .i64) .unit)))))) (.pr (.st (.pr (.int .i64) (.pr (.int .i64) (.pr (.int .i64) (.pr (.int .i64) (.pr (.int .i64) .unit)))))) (.pr (.st (.pr (.int .i64) (.pr (.int .i64) (.pr (.int .i64) (.pr (.int .i64) (.pr (.int .i64) .unit)))))) (.pr (.st (.pr (.int .i64) (.pr (.int .i64) (.pr (.int .i64) (.pr (.int .i64) (.pr (.int .i64) .unit)))))) (.pr (.st (.pr (.int .i64) (.pr (.int .i64) (.pr (.int .i64) (.pr (.int .i64) (.pr (.int .i64) .unit)))))) (.pr (.st (.pr (.int .i64) (.pr (.int .i64) (.pr (.int .i64) (.pr (.int .i64) (.pr (.int .i64) .unit)))))) (.pr (.st (.pr (.int .i64) (.pr (.int .i64) (.pr (.int .i64) (.pr (.int .i64) (.pr (.int .i64) .unit)))))) (.pr (.st (.pr (.int .i64) (.pr (.int .i64) (.pr (.int .i64) (.pr (.int .i64) (.pr (.int .i64) .unit)))))) (.pr (.st (.pr (.int .i64) (.pr (.int .i64) (.pr (.int .i64) (.pr (.int .i64) (.pr (.int .i64) .unit)))))) (.pr (.st (.pr (.int .i64) (.pr (.int .i64) (.pr (.int .i64) (.pr (.int .i64) (.pr (.int .i64) .unit)))))) (.pr (.st (.pr (.int .i64) (.pr (.int .i64) (.pr (.int .i64) (.pr (.int .i64) (.pr (.int .i64) .unit)))))) (.pr (.st (.pr (.int .i64) (.pr (.int .i64) (.pr (.int .i64) (.pr (.int .i64) (.pr (.int .i64) .unit)))))) (.pr (.st (.pr (.int .i64) (.pr (.int .i64) (.pr (.int .i64) (.pr (.int .i64) (.pr (.int .i64) .unit)))))) (.pr (.st (.pr (.int .i64) (.pr (.int .i64) (.pr (.int .i64) (.pr (.int .i64) (.pr (.int .i64) .unit)))))) (.pr (.st (.pr (.int .i64) (.pr (.int .i64) (.pr (.int .i64) (.pr (.int .i64) (.pr (.int .i64) .unit)))))) (.pr (.st (.pr (.int .i64) (.pr (.int .i64) (.pr (.int .i64) (.pr (.int .i64) (.pr (.int .i64) .unit)))))) (.pr (.st (.pr (.int .i64) (.pr (.int .i64) (.pr (.int .i64) (.pr (.int .i64) (.pr (.int .i64) .unit)))))) (.pr (.st (.pr (.int .i64) (.pr (.int .i64) (.pr (.int .i64) (.pr (.int .i64) (.pr (.int .i64) .unit)))))) (.pr (.st (.pr (.int .i64) (.pr (.int .i64) (.pr (.int .i64) (.pr (.int .i64) (.pr (.int .i64) .unit)))))) (.pr (.st (.pr (.int .i64) (.pr (.int .i64) (.pr (.int .i64) (.pr (.int .i64) (.pr (.int .i64) .unit)))))) (.pr (.st (.pr (.int .i64) (.pr (.int .i64) (.pr (.int .i64) (.pr (.int .i64) (.pr (.int .i64) .unit)))))) (.pr (.st (.pr (.int .i64) (.pr (.int .i64) (.pr (.int .i64) (.pr (.int .i64) (.pr (.int .i64) .unit)))))) (.pr (.st (.pr (.int .i64) (.pr (.int .i64) (.pr (.int .i64) (.pr (.int .i64) (.pr (.int .i64) .unit)))))) (.pr (.st (.pr (.int .i64) (.pr (.int .i64) (.pr (.int .i64) (.pr (.int .i64) (.pr (.int .i64) .unit)))))) (.pr (.st (.pr (.int .i64) (.pr (.int .i64) (.pr (.int .i64) (.pr (.int .i64) (.pr (.int .i64) .unit)))))) (.pr (.st (.pr (.int .i64) (.pr (.int .i64) (.pr (.int .i64) (.pr (.int .i64) (.pr (.int .i64) .unit)))))) .unit))))))))))))))))))))))))))))))))) (.pr (.int .i64) (.pr (.int .i64) (.pr (.int .i64) (.pr (.int .i64) (.pr (.int .i64) (.pr .str (.pr (.int .i64) (.pr (.int .i64) .unit)))))))))), 0, 0⟩),
 (130, ⟨(.st (.pr (.st (.pr (.st (.pr (.int .i64) (.pr (.int .i64) (.pr (.int .i64) (.pr (.int .i64) (.pr (.int .i64) .unit)))))) (.pr (.st (.pr (.int .i64) (.pr (.int .i64) (.pr (.int .i64) (.pr (.int .i64) (.pr (.int .i64) .unit)))))) (.pr (.st (.pr (.int .i64) (.pr (.int .i64) (.pr (.int .i64) (.pr (.int .i64) (.pr (.int .i64) .unit)))))) (.pr (.st (.pr (.int .i64) (.pr (.int .i64) (.pr (.int .i64) (.pr (.int .i64) (.pr (.int .i64) .unit)))))) (.pr (.st (.pr (.int .i64) (.pr (.int .i64) (.pr (.int .i64) (.pr (.int .i64) (.pr (.int .i64) .unit)))))) (.pr (.st (.pr (.int .i64) (.pr (.int .i64) (.pr (.int .i64) (.pr (.int .i64) (.pr (.int .i64) .unit)))))) (.pr (.st (.pr (.int .i64) (.pr (.int .i64) (.pr (.int .i64) (.pr (.int .i64) (.pr (.int .i64) .unit)))))) (.pr (.st (.pr (.int .i64) (.pr (.int .i64) (.pr (.int .i64) (.pr (.int .i64) (.pr (.int .i64) .unit)))))) (.pr (.st (.pr (.int .i64) (.pr (.int .i64) (.pr (.int .i64) (.pr (.int .i64) (.pr (.int .i64) .unit)))))) (.pr (.st (.pr (.int .i64) (.pr (.int .i64) (.pr (.int .i64) (.pr (.int .i64) (.pr (.int .i64) .unit)))))) (.pr (.st (.pr (.int .i64) (.pr (.int .i64) (.pr (.int .i64) (.pr (.int .i64) (.pr (.int .i64) .unit)))))) (.pr (.st (.pr (.int .i64) (.pr (.int .i64) (.pr (.int .i64) (.pr (.int .i64) (.pr (.int .i64) .unit)))))) (.pr (.st (.pr (.int .i64) (.pr (.int .i64) (.pr (.int .i64) (.pr (.int .i64) (.pr (.int .i64) .unit)))))) (.pr (.st (.pr (.int .i64) (.pr (.int .i64) (.pr (.int .i64) (.pr (.int .i64) (.pr (.int .i64) .unit)))))) (.pr (.st (.pr (.int .i64) (.pr (.int .i64) (.pr (.int .i64) (.pr (.int .i64) (.pr (.int .i64) .unit)))))) (.pr (.st (.pr (.int .i64) (.pr (.int .i64) (.pr (.int .i64) (.pr (.int .i64) (.pr (.int .i64) .unit)))))) (.pr (.st (.pr (.int .i64) (.pr (.int .i64) (.pr (.int .i64) (.pr (.int .i64) (.pr (.int .i64) .unit)))))) (.pr (.st (.pr (.int .i64) (.pr (.int .i64) (.pr (.int .i64) (.pr (.int .i64) (.pr (.int .i64) .unit)))))) (.pr (.st (.pr (.int .i64) (.pr (.int .i64) (.pr (.int .i64) (.pr (.int .i64) (.pr (.int .i64) .unit)))))) (.pr (.st (.pr (.int .i64) (.pr (.int .i64) (.pr (.int .i64) (.pr (.int .i64) (.pr (.int .i64) .unit)))))) (.pr (.st (.pr (.int .i64) (.pr (.int .i64) (.pr (.int .i64) (.pr (.int .i64) (.pr (.int .i64) .unit)))))) (.pr (.st (.pr (.int .i64) (.pr (.int .i64) (.pr (.int .i64) (.pr (.int .i64) (.pr (.int .i64) .unit)))))) (.pr (.st (.pr (.int .i64) (.pr (.int .i64) (.pr (.int .i64) (.pr (.int .i64) (.pr (.int .i64) .unit)))))) (.pr (.st (.pr (.int .i64) (.pr (.int .i64) (.pr (.int .i64) (.pr (.int .i64) (.pr (.int .i64) .unit)))))) (.pr (.st (.pr (.int .i64) (.pr (.int .i64) (.pr (.int .i64) (.pr (.int .i64) (.pr (.int .i64) .unit)))))) (.pr (.st (.pr (.int .i64) (.pr (.int .i64) (.pr (.int .i64) (.pr (.int .i64) (.pr (.int .i64) .unit)))))) (.pr (.st (.pr (.int .i64) (.pr (.int .i64) (.pr (.int .i64) (.pr (.int .i64) (.pr (.int .i64) .unit)))))) (.pr (.st (.pr (.int .i64) (.pr (.int .i64) (.pr (.int .i64) (.pr (.int .i64) (.pr (.int .i64) .unit)))))) (.pr (.st (.pr (.int .i64) (.pr (.int .i64) (.pr (.int .i64) (.pr (.int .i64) (.pr (.int .i64) .unit)))))) (.pr (.st (.pr (.int .i64) (.pr (.int .i64) (.pr (.int .i64) (.pr (.int .i64) (.pr (.int .i64) .unit)))))) (.pr (.st (.pr (.int .i64) (.pr (.int .i64) (.pr (.int .i64) (.pr (.int .i64) (.pr (.int .i64) .unit)))))) (.pr (.st (.pr (.int .i64) (.pr (.int .i64) (.pr (.int .i64) (.pr (.int .i64) (.pr (.int .i64) .unit)))))) .unit))))))))))))))))))))))))))))))))) (.pr (.int .i64) (.pr (.int .i64) (.pr (.int .i64) (.pr (.int .i64) (.pr (.int .i64) (.pr .str (.pr (.int .i64) (.pr (.int .i64) .unit)))))))))), 0, 0⟩),
 (136, ⟨(.st (.pr (.sl (.int .u8)) (.pr (.int .i64) (.pr (.int .i64) .unit)))), 0, 0⟩),
 (137, ⟨(.st (.pr (.sl (.int .u8)) (.pr (.int .i64) (.pr (.int .i64) .unit)))), 0, 0⟩),
 (152, ⟨(.sl (.st (.pr (.int .i32) (.pr (.int .i64) (.pr (.int .i64) (.pr .bool .unit)))))), 155, 32⟩),
 (154, ⟨(.st (.pr (.int .i32) (.pr (.int .i64) (.pr (.int .i64) (.pr .bool .unit))))), 0, 0⟩),
 (167, ⟨(.eb 187 .unit), 0, 0⟩),
 (111, ⟨(.ptr (.st (.pr (.sl (.int .u8)) (.pr (.int .i64) (.pr (.int .i64) .unit))))), 0, 0⟩)]
theorem Tys_ok : ∀ id i, Go.Lf.look Tys id = some i → Go.Lf.TyOk Go.Proofs.Tryd.prog id i := Go.Lf.tysB_ok (by kernel_rfl)
noncomputable def foliolaw16_bytesCtx : Go.Lf.Ctx := ⟨6, Tys, [], [2], [], [(2, (.rw 5 (.int .u8)))], []⟩
noncomputable def foliolaw16_bytesCode : Go.Code := (Go.Proofs.Tryd.f31.body).getD .skip
def foliolaw16_bytesAnn : Go.Lf.Ann := .no
noncomputable def foliolaw16_bytes (a0 : List (Int)) : Option (List (Int)) :=
 ((Go.Lf.app (1 : Nat) ([] : List (Int)) a0)).bind fun r1 =>
 some r1
theorem foliolaw16_bytes_eq (a0 : List (Int)) : Go.Lf.fnE foliolaw16_bytesCtx foliolaw16_bytesCode foliolaw16_bytesAnn [.val (.sl (.int .u8))] [(.rw 5 (.int .u8))] [.tmp 2] (a0) = foliolaw16_bytes a0 := by kernel_rfl
noncomputable def foliolaw16_bytesEnt : Nat × Go.Lf.Entry := (31, ⟨[.val (.sl (.int .u8))], [(.rw 5 (.int .u8))], fun z => foliolaw16_bytes z⟩)
theorem foliolaw16_bytes_ok : Go.Lf.EntryOk Go.Proofs.Tryd.prog GG 31 foliolaw16_bytesEnt.2 :=
  Go.Lf.fn_ok (c := foliolaw16_bytesCtx) (code := foliolaw16_bytesCode) (an := foliolaw16_bytesAnn) (slots := [.tmp 2]) (fn := Go.Proofs.Tryd.f31) (by kernel_rfl) ⟨Tys_ok, Go.Lf.FnsOk.look .nil, Go.Lf.IpsOk.look .nil⟩ (by kernel_rfl) (by kernel_rfl) (by kernel_rfl) (by kernel_rfl) (by kernel_rfl) (Nat.le_of_ble_eq_true rfl) (by simp [Go.Lf.Ty.top]) (by simp [Go.Lf.Ty.top]) fun z r h => (foliolaw16_bytes_eq z).trans h
noncomputable def octet_NewCtx : Go.Lf.Ctx := ⟨16, Tys, [], [], [], [(6, (.mr 5 (.int .u8))), (7, (.st (.pr (.mr 5 (.int .u8)) (.pr (.int .i64) (.pr (.int .i64) .unit)))))], []⟩
noncomputable def octet_NewCode : Go.Code := (Go.Proofs.Tryd.f55.body).getD .skip
def octet_NewAnn : Go.Lf.Ann := .no
noncomputable def octet_New (a0 : List (Int)) : Option ((List (Int)) × ((Int) × ((Int) × (Unit)))) :=
 ((Go.Lf.made (1 : Nat) (0 : Int) (((List.length a0) : Nat) : Int) (((List.length a0) : Nat) : Int))).bind fun r1 =>
 some ((List.append (List.take (List.length r1) a0) (List.drop (List.length a0) r1)), ((0 : Int), ((0 : Int), ())))
theorem octet_New_eq (a0 : List (Int)) : Go.Lf.fnE octet_NewCtx octet_NewCode octet_NewAnn [.val (.sl (.int .u8))] [(.bx 137 (.st (.pr (.mr 5 (.int .u8)) (.pr (.int .i64) (.pr (.int .i64) .unit)))))] [.tmp 2] (a0) = octet_New a0 := by kernel_rfl
noncomputable def octet_NewEnt : Nat × Go.Lf.Entry := (55, ⟨[.val (.sl (.int .u8))], [(.bx 137 (.st (.pr (.mr 5 (.int .u8)) (.pr (.int .i64) (.pr (.int .i64) .unit)))))], fun z => octet_New z⟩)
theorem octet_New_ok : Go.Lf.EntryOk Go.Proofs.Tryd.prog GG 55 octet_NewEnt.2 :=
  Go.Lf.fn_ok (c := octet_NewCtx) (code := octet_NewCode) (an := octet_NewAnn) (slots := [.tmp 2]) (fn := Go.Proofs.Tryd.f55) (by kernel_rfl) ⟨Tys_ok, Go.Lf.FnsOk.look .nil, Go.Lf.IpsOk.look .nil⟩ (by kernel_rfl) (by kernel_rfl) (by kernel_rfl) (by kernel_rfl) (by kernel_rfl) (Nat.le_of_ble_eq_true rfl) (by simp [Go.Lf.Ty.top]) (by simp [Go.Lf.Ty.top]) fun z r h => (octet_New_eq z).trans h
noncomputable def octet_Cursor__ErrCtx : Go.Lf.Ctx := ⟨9, Tys, [], [], [], [], []⟩
noncomputable def octet_Cursor__ErrCode : Go.Code := (Go.Proofs.Tryd.f57.body).getD .skip
def octet_Cursor__ErrAnn : Go.Lf.Ann := .no
noncomputable def octet_Cursor__Err (a0 : (List (Int)) × ((Int) × ((Int) × (Unit)))) : Option ((Int) × ((List (Int)) × ((Int) × ((Int) × (Unit))))) :=
 some (a0.2.2.1, a0)
theorem octet_Cursor__Err_eq (a0 : (List (Int)) × ((Int) × ((Int) × (Unit)))) : Go.Lf.fnE octet_Cursor__ErrCtx octet_Cursor__ErrCode octet_Cursor__ErrAnn [.obj 137 (.st (.pr (.mr 5 (.int .u8)) (.pr (.int .i64) (.pr (.int .i64) .unit)))) (.st (.pr (.mr 5 (.int .u8)) (.pr (.int .i64) (.pr (.int .i64) .unit)))) []] [(.int .i64)] [.tmp 2] (a0) = octet_Cursor__Err a0 := by kernel_rfl
noncomputable def octet_Cursor__ErrEnt : Nat × Go.Lf.Entry := (57, ⟨[.obj 137 (.st (.pr (.mr 5 (.int .u8)) (.pr (.int .i64) (.pr (.int .i64) .unit)))) (.st (.pr (.mr 5 (.int .u8)) (.pr (.int .i64) (.pr (.int .i64) .unit)))) []], [(.int .i64)], fun z => octet_Cursor__Err z⟩)
theorem octet_Cursor__Err_ok : Go.Lf.EntryOk Go.Proofs.Tryd.prog GG 57 octet_Cursor__ErrEnt.2 :=
  Go.Lf.fn_ok (c := octet_Cursor__ErrCtx) (code := octet_Cursor__ErrCode) (an := octet_Cursor__ErrAnn) (slots := [.tmp 2]) (fn := Go.Proofs.Tryd.f57) (by kernel_rfl) ⟨Tys_ok, Go.Lf.FnsOk.look .nil, Go.Lf.IpsOk.look .nil⟩ (by kernel_rfl) (by kernel_rfl) (by kernel_rfl) (by kernel_rfl) (by kernel_rfl) (Nat.le_of_ble_eq_true rfl) (by simp [Go.Lf.Ty.top]) (by simp [Go.Lf.Ty.top]) fun z r h => (octet_Cursor__Err_eq z).trans h
noncomputable def octet_Cursor__fineCtx : Go.Lf.Ctx := ⟨6, Tys, [octet_Cursor__ErrEnt], [], [], [], []⟩
noncomputable def octet_Cursor__fineCode : Go.Code := (Go.Proofs.Tryd.f76.body).getD .skip
def octet_Cursor__fineAnn : Go.Lf.Ann := .no
noncomputable def octet_Cursor__fine (a0 : (List (Int)) × ((Int) × ((Int) × (Unit)))) : Option ((Bool) × ((List (Int)) × ((Int) × ((Int) × (Unit))))) :=
 ((Go.Fn.octet_Cursor__Err a0)).bind fun r1 =>
 some ((decide ((r1.1 : Int) = (0 : Int))), r1.2)
theorem octet_Cursor__fine_eq (a0 : (List (Int)) × ((Int) × ((Int) × (Unit)))) : Go.Lf.fnE octet_Cursor__fineCtx octet_Cursor__fineCode octet_Cursor__fineAnn [.obj 137 (.st (.pr (.mr 5 (.int .u8)) (.pr (.int .i64) (.pr (.int .i64) .unit)))) (.st (.pr (.mr 5 (.int .u8)) (.pr (.int .i64) (.pr (.int .i64) .unit)))) []] [.bool] [.tmp 2] (a0) = octet_Cursor__fine a0 := by kernel_rfl
noncomputable def octet_Cursor__fineEnt : Nat × Go.Lf.Entry := (76, ⟨[.obj 137 (.st (.pr (.mr 5 (.int .u8)) (.pr (.int .i64) (.pr (.int .i64) .unit)))) (.st (.pr (.mr 5 (.int .u8)) (.pr (.int .i64) (.pr (.int .i64) .unit)))) []], [.bool], fun z => octet_Cursor__fine z⟩)
theorem octet_Cursor__fine_ok : Go.Lf.EntryOk Go.Proofs.Tryd.prog GG 76 octet_Cursor__fineEnt.2 :=
  Go.Lf.fn_ok (c := octet_Cursor__fineCtx) (code := octet_Cursor__fineCode) (an := octet_Cursor__fineAnn) (slots := [.tmp 2]) (fn := Go.Proofs.Tryd.f76) (by kernel_rfl) ⟨Tys_ok, Go.Lf.FnsOk.look (.con octet_Cursor__Err_ok .nil), Go.Lf.IpsOk.look .nil⟩ (by kernel_rfl) (by kernel_rfl) (by kernel_rfl) (by kernel_rfl) (by kernel_rfl) (Nat.le_of_ble_eq_true rfl) (by simp [Go.Lf.Ty.top]) (by simp [Go.Lf.Ty.top]) fun z r h => (octet_Cursor__fine_eq z).trans h
noncomputable def octet_Cursor__LeftCtx : Go.Lf.Ctx := ⟨15, Tys, [], [], [], [], []⟩
noncomputable def octet_Cursor__LeftCode : Go.Code := (Go.Proofs.Tryd.f99.body).getD .skip
def octet_Cursor__LeftAnn : Go.Lf.Ann := (.seq .no (.seq .no (.seq (.draw 11) .no)))
noncomputable def octet_Cursor__Left (a0 : (List (Int)) × ((Int) × ((Int) × (Unit)))) : Option ((Int) × ((List (Int)) × ((Int) × ((Int) × (Unit))))) :=
 some ((Go.IntKind.wrap .i64 ((((List.length a0.1) : Nat) : Int) - a0.2.1)), a0)
theorem octet_Cursor__Left_eq (a0 : (List (Int)) × ((Int) × ((Int) × (Unit)))) : Go.Lf.fnE octet_Cursor__LeftCtx octet_Cursor__LeftCode octet_Cursor__LeftAnn [.obj 137 (.st (.pr (.mr 5 (.int .u8)) (.pr (.int .i64) (.pr (.int .i64) .unit)))) (.st (.pr (.mr 5 (.int .u8)) (.pr (.int .i64) (.pr (.int .i64) .unit)))) []] [(.int .i64)] [.tmp 2] (a0) = octet_Cursor__Left a0 := by kernel_rfl
noncomputable def octet_Cursor__LeftEnt : Nat × Go.Lf.Entry := (99, ⟨[.obj 137 (.st (.pr (.mr 5 (.int .u8)) (.pr (.int .i64) (.pr (.int .i64) .unit)))) (.st (.pr (.mr 5 (.int .u8)) (.pr (.int .i64) (.pr (.int .i64) .unit)))) []], [(.int .i64)], fun z => octet_Cursor__Left z⟩)
theorem octet_Cursor__Left_ok : Go.Lf.EntryOk Go.Proofs.Tryd.prog GG 99 octet_Cursor__LeftEnt.2 :=
  Go.Lf.fn_ok (c := octet_Cursor__LeftCtx) (code := octet_Cursor__LeftCode) (an := octet_Cursor__LeftAnn) (slots := [.tmp 2]) (fn := Go.Proofs.Tryd.f99) (by kernel_rfl) ⟨Tys_ok, Go.Lf.FnsOk.look .nil, Go.Lf.IpsOk.look .nil⟩ (by kernel_rfl) (by kernel_rfl) (by kernel_rfl) (by kernel_rfl) (by kernel_rfl) (Nat.le_of_ble_eq_true rfl) (by simp [Go.Lf.Ty.top]) (by simp [Go.Lf.Ty.top]) fun z r h => (octet_Cursor__Left_eq z).trans h
noncomputable def octet_Cursor__numberCtx : Go.Lf.Ctx := ⟨59, Tys, [octet_Cursor__LeftEnt], [], [], [], []⟩
noncomputable def octet_Cursor__numberCode : Go.Code := (Go.Proofs.Tryd.f77.body).getD .skip
def octet_Cursor__numberAnn : Go.Lf.Ann := (.seq .no (.seq .no (.seq .no (.seq (.loop ⟨[], [(0, 0, [], 0)], [(6, (.int .i64)), (5, (.int .u64))], [(0, 137, (.st (.pr (.mr 5 (.int .u8)) (.pr (.int .i64) (.pr (.int .i64) .unit)))))], []⟩ (.more (.ext 0) ⟨[], [(0, 0, [], 0)], [(6, (.int .i64)), (5, (.int .u64))], [(0, 137, (.st (.pr (.mr 5 (.int .u8)) (.pr (.int .i64) (.pr (.int .i64) .unit)))))], []⟩ (.one .ret ⟨[], [(0, 0, [], 0)], [(2, (.int .u64)), (3, (.int .i64)), (4, (.int .i64))], [(0, 137, (.st (.pr (.mr 5 (.int .u8)) (.pr (.int .i64) (.pr (.int .i64) .unit)))))], []⟩)) (.seq .no (.seq (.seq (.draw 14) (.seq (.seq (.join (.one .nrm ⟨[6, 7, 5], [(0, 0, [], 0)], [(36, .bool)], [(0, 137, (.st (.pr (.mr 5 (.int .u8)) (.pr (.int .i64) (.pr (.int .i64) .unit)))))], []⟩) .no) .no) (.seq .no (.seq .no (.cnd (.seq (.seq (.join (.one .nrm ⟨[6, 5], [(0, 0, [], 0)], [(51, .bool)], [(0, 137, (.st (.pr (.mr 5 (.int .u8)) (.pr (.int .i64) (.pr (.int .i64) .unit)))))], []⟩) .no) .no) .no) .no))))) .no))) .no))))
noncomputable def octet_Cursor__number (a0 : (List (Int)) × ((Int) × ((Int) × (Unit)))) : Option ((Int) × ((Int) × ((Int) × ((List (Int)) × ((Int) × ((Int) × (Unit))))))) :=
 (Go.Lf.loopC (σ := (Int) × ((Int) × ((List (Int)) × ((Int) × ((Int) × (Unit)))))) (κ := ((Int) × ((Int) × ((List (Int)) × ((Int) × ((Int) × (Unit)))))) ⊕ ((Int) × ((Int) × ((Int) × ((List (Int)) × ((Int) × ((Int) × (Unit)))))))) (fun z1 =>
     ((Go.Fn.octet_Cursor__Left z1.2.2)).bind fun r2 =>
     bif (decide (z1.1 < r2.1)) then ((Go.Lf.chk (List.length r2.2.1) (Go.IntKind.wrap .i64 (r2.2.2.1 + z1.1)))).bind fun r3 =>
     ((Go.Lf.nth r2.2.1 r3)).bind fun r4 =>
     (bif (!(decide ((9 : Int) < z1.1))) then bif (decide ((z1.1 : Int) = (9 : Int))) then some ((decide ((1 : Int) < (Go.IntKind.wrap .u64 r4))), r2.2)
       else some (false, r2.2)
       else some (true, r2.2)).bind fun r5 =>
     bif r5.1 then some (.inr (.inr ((0 : Int), ((0 : Int), ((31 : Int), r5.2)))))
     else ((Go.Lf.nn (Go.IntKind.wrap .i64 ((7 : Int) * z1.1)) (Go.IntKind.wrap .u64 ((Go.Lf.bits .and .u64 (Go.IntKind.wrap .u64 r4) (127 : Int)) * ((2 : Int) ^ (Min.min (Int.toNat (Go.IntKind.wrap .i64 ((7 : Int) * z1.1))) (64 : Nat))))))).bind fun r6 =>
     bif (decide ((Go.IntKind.wrap .u64 r4) < (128 : Int))) then (bif (decide (((Go.IntKind.wrap .u64 r4) : Int) = (0 : Int))) then some ((decide ((0 : Int) < z1.1)), r5.2)
       else some (false, r5.2)).bind fun r7 =>
     bif r7.1 then some (.inr (.inr ((0 : Int), ((0 : Int), ((31 : Int), r7.2)))))
     else some (.inr (.inl (z1.1, ((Go.Lf.bits .or .u64 z1.2.1 r6), r7.2))))
     else some (.inl ((Go.IntKind.wrap .i64 (z1.1 + (1 : Int))), ((Go.Lf.bits .or .u64 z1.2.1 r6), r5.2)))
     else some (.inr (.inl (z1.1, (z1.2.1, r2.2))))) ((0 : Int), ((0 : Int), a0)) : Option (((Int) × ((Int) × ((List (Int)) × ((Int) × ((Int) × (Unit)))))) ⊕ ((Int) × ((Int) × ((Int) × ((List (Int)) × ((Int) × ((Int) × (Unit))))))))).bind fun r8 =>
 Go.Lf.onSum r8 (fun a9 =>
 ((Go.Fn.octet_Cursor__Left a9.2.2)).bind fun r10 =>
 bif (decide (r10.1 ≤ a9.1)) then some ((0 : Int), ((0 : Int), ((30 : Int), r10.2)))
 else some (a9.2.1, ((Go.IntKind.wrap .i64 (a9.1 + (1 : Int))), ((0 : Int), r10.2)))) (fun b11 =>
 some (b11.1, (b11.2.1, (b11.2.2.1, b11.2.2.2))))
theorem octet_Cursor__number_eq (a0 : (List (Int)) × ((Int) × ((Int) × (Unit)))) : Go.Lf.fnE octet_Cursor__numberCtx octet_Cursor__numberCode octet_Cursor__numberAnn [.obj 137 (.st (.pr (.mr 5 (.int .u8)) (.pr (.int .i64) (.pr (.int .i64) .unit)))) (.st (.pr (.mr 5 (.int .u8)) (.pr (.int .i64) (.pr (.int .i64) .unit)))) []] [(.int .u64), (.int .i64), (.int .i64)] [.tmp 2, .tmp 3, .tmp 4] (a0) = octet_Cursor__number a0 := by kernel_rfl
noncomputable def octet_Cursor__numberEnt : Nat × Go.Lf.Entry := (77, ⟨[.obj 137 (.st (.pr (.mr 5 (.int .u8)) (.pr (.int .i64) (.pr (.int .i64) .unit)))) (.st (.pr (.mr 5 (.int .u8)) (.pr (.int .i64) (.pr (.int .i64) .unit)))) []], [(.int .u64), (.int .i64), (.int .i64)], fun z => octet_Cursor__number z⟩)
theorem octet_Cursor__number_ok : Go.Lf.EntryOk Go.Proofs.Tryd.prog GG 77 octet_Cursor__numberEnt.2 :=
  Go.Lf.fn_ok (c := octet_Cursor__numberCtx) (code := octet_Cursor__numberCode) (an := octet_Cursor__numberAnn) (slots := [.tmp 2, .tmp 3, .tmp 4]) (fn := Go.Proofs.Tryd.f77) (by kernel_rfl) ⟨Tys_ok, Go.Lf.FnsOk.look (.con octet_Cursor__Left_ok .nil), Go.Lf.IpsOk.look .nil⟩ (by kernel_rfl) (by kernel_rfl) (by kernel_rfl) (by kernel_rfl) (by kernel_rfl) (Nat.le_of_ble_eq_true rfl) (by simp [Go.Lf.Ty.top]) (by simp [Go.Lf.Ty.top]) fun z r h => (octet_Cursor__number_eq z).trans h
noncomputable def octet_Cursor__FailCtx : Go.Lf.Ctx := ⟨17, Tys, [], [], [], [], []⟩
noncomputable def octet_Cursor__FailCode : Go.Code := (Go.Proofs.Tryd.f78.body).getD .skip
def octet_Cursor__FailAnn : Go.Lf.Ann := .no
noncomputable def octet_Cursor__Fail (a0 : (List (Int)) × ((Int) × ((Int) × (Unit)))) (a1 : Int) : Option ((List (Int)) × ((Int) × ((Int) × (Unit)))) :=
 bif (decide ((a0.2.2.1 : Int) = (0 : Int))) then some (a0.1, (a0.2.1, (a1, a0.2.2.2)))
 else some a0
theorem octet_Cursor__Fail_eq (a0 : (List (Int)) × ((Int) × ((Int) × (Unit)))) (a1 : Int) : Go.Lf.fnE octet_Cursor__FailCtx octet_Cursor__FailCode octet_Cursor__FailAnn [.obj 137 (.st (.pr (.mr 5 (.int .u8)) (.pr (.int .i64) (.pr (.int .i64) .unit)))) (.st (.pr (.mr 5 (.int .u8)) (.pr (.int .i64) (.pr (.int .i64) .unit)))) [], .val (.int .i64)] [] [] (a0, a1) = octet_Cursor__Fail a0 a1 := by kernel_rfl
noncomputable def octet_Cursor__FailEnt : Nat × Go.Lf.Entry := (78, ⟨[.obj 137 (.st (.pr (.mr 5 (.int .u8)) (.pr (.int .i64) (.pr (.int .i64) .unit)))) (.st (.pr (.mr 5 (.int .u8)) (.pr (.int .i64) (.pr (.int .i64) .unit)))) [], .val (.int .i64)], [], fun z => octet_Cursor__Fail z.1 z.2⟩)
theorem octet_Cursor__Fail_ok : Go.Lf.EntryOk Go.Proofs.Tryd.prog GG 78 octet_Cursor__FailEnt.2 :=
  Go.Lf.fn_ok (c := octet_Cursor__FailCtx) (code := octet_Cursor__FailCode) (an := octet_Cursor__FailAnn) (slots := []) (fn := Go.Proofs.Tryd.f78) (by kernel_rfl) ⟨Tys_ok, Go.Lf.FnsOk.look .nil, Go.Lf.IpsOk.look .nil⟩ (by kernel_rfl) (by kernel_rfl) (by kernel_rfl) (by kernel_rfl) (by kernel_rfl) (Nat.le_of_ble_eq_true rfl) (by simp [Go.Lf.Ty.top]) (by simp [Go.Lf.Ty.top]) fun z r h => (octet_Cursor__Fail_eq z.1 z.2).trans h
noncomputable def octet_Cursor__UintCtx : Go.Lf.Ctx := ⟨31, Tys, [octet_Cursor__fineEnt, octet_Cursor__numberEnt, octet_Cursor__FailEnt], [11], [], [], []⟩
noncomputable def octet_Cursor__UintCode : Go.Code := (Go.Proofs.Tryd.f56.body).getD .skip
def octet_Cursor__UintAnn : Go.Lf.Ann := .no
noncomputable def octet_Cursor__Uint (a0 : (List (Int)) × ((Int) × ((Int) × (Unit)))) : Option ((Int) × ((List (Int)) × ((Int) × ((Int) × (Unit))))) :=
 ((Go.Fn.octet_Cursor__fine a0)).bind fun r1 =>
 bif (!r1.1) then some ((0 : Int), r1.2)
 else ((Go.Fn.octet_Cursor__number r1.2)).bind fun r2 =>
 bif (decide ((r2.2.2.1 : Int) ≠ (0 : Int))) then ((Go.Fn.octet_Cursor__Fail r2.2.2.2 r2.2.2.1)).bind fun r3 =>
 some ((0 : Int), r3)
 else some (r2.1, (r2.2.2.2.1, ((Go.IntKind.wrap .i64 (r2.2.2.2.2.1 + r2.2.1)), r2.2.2.2.2.2)))
theorem octet_Cursor__Uint_eq (a0 : (List (Int)) × ((Int) × ((Int) × (Unit)))) : Go.Lf.fnE octet_Cursor__UintCtx octet_Cursor__UintCode octet_Cursor__UintAnn [.obj 137 (.st (.pr (.mr 5 (.int .u8)) (.pr (.int .i64) (.pr (.int .i64) .unit)))) (.st (.pr (.mr 5 (.int .u8)) (.pr (.int .i64) (.pr (.int .i64) .unit)))) []] [(.int .u64)] [.tmp 2] (a0) = octet_Cursor__Uint a0 := by kernel_rfl
noncomputable def octet_Cursor__UintEnt : Nat × Go.Lf.Entry := (56, ⟨[.obj 137 (.st (.pr (.mr 5 (.int .u8)) (.pr (.int .i64) (.pr (.int .i64) .unit)))) (.st (.pr (.mr 5 (.int .u8)) (.pr (.int .i64) (.pr (.int .i64) .unit)))) []], [(.int .u64)], fun z => octet_Cursor__Uint z⟩)
theorem octet_Cursor__Uint_ok : Go.Lf.EntryOk Go.Proofs.Tryd.prog GG 56 octet_Cursor__UintEnt.2 :=
  Go.Lf.fn_ok (c := octet_Cursor__UintCtx) (code := octet_Cursor__UintCode) (an := octet_Cursor__UintAnn) (slots := [.tmp 2]) (fn := Go.Proofs.Tryd.f56) (by kernel_rfl) ⟨Tys_ok, Go.Lf.FnsOk.look (.con octet_Cursor__fine_ok (.con octet_Cursor__number_ok (.con octet_Cursor__Fail_ok .nil))), Go.Lf.IpsOk.look .nil⟩ (by kernel_rfl) (by kernel_rfl) (by kernel_rfl) (by kernel_rfl) (by kernel_rfl) (Nat.le_of_ble_eq_true rfl) (by simp [Go.Lf.Ty.top]) (by simp [Go.Lf.Ty.top]) fun z r h => (octet_Cursor__Uint_eq z).trans h
noncomputable def octet_Cursor__AtCtx : Go.Lf.Ctx := ⟨9, Tys, [], [], [], [], []⟩
noncomputable def octet_Cursor__AtCode : Go.Code := (Go.Proofs.Tryd.f58.body).getD .skip
def octet_Cursor__AtAnn : Go.Lf.Ann := .no
noncomputable def octet_Cursor__At (a0 : (List (Int)) × ((Int) × ((Int) × (Unit)))) : Option (Int) :=
 some a0.2.1
theorem octet_Cursor__At_eq (a0 : (List (Int)) × ((Int) × ((Int) × (Unit)))) : Go.Lf.fnE octet_Cursor__AtCtx octet_Cursor__AtCode octet_Cursor__AtAnn [.val (.ptr (.st (.pr (.sl (.int .u8)) (.pr (.int .i64) (.pr (.int .i64) .unit)))))] [(.int .i64)] [.tmp 2] (a0) = octet_Cursor__At a0 := by kernel_rfl
noncomputable def octet_Cursor__AtEnt : Nat × Go.Lf.Entry := (58, ⟨[.val (.ptr (.st (.pr (.sl (.int .u8)) (.pr (.int .i64) (.pr (.int .i64) .unit)))))], [(.int .i64)], fun z => octet_Cursor__At z⟩)
theorem octet_Cursor__At_ok : Go.Lf.EntryOk Go.Proofs.Tryd.prog GG 58 octet_Cursor__AtEnt.2 :=
  Go.Lf.fn_ok (c := octet_Cursor__AtCtx) (code := octet_Cursor__AtCode) (an := octet_Cursor__AtAnn) (slots := [.tmp 2]) (fn := Go.Proofs.Tryd.f58) (by kernel_rfl) ⟨Tys_ok, Go.Lf.FnsOk.look .nil, Go.Lf.IpsOk.look .nil⟩ (by kernel_rfl) (by kernel_rfl) (by kernel_rfl) (by kernel_rfl) (by kernel_rfl) (Nat.le_of_ble_eq_true rfl) (by simp [Go.Lf.Ty.top]) (by simp [Go.Lf.Ty.top]) fun z r h => (octet_Cursor__At_eq z).trans h
noncomputable def code_finishCtx : Go.Lf.Ctx := ⟨81, Tys, [], [67], [], [(67, (.rw 3 (.int .i64)))], []⟩
noncomputable def code_finishCode : Go.Code := (Go.Proofs.Tryd.f59.body).getD .skip
def code_finishAnn : Go.Lf.Ann := (.seq .no (.seq (.join (.more .ret ⟨[], [(6, 6, [], 0)], [(7, (.int .i64))], [(6, 59, (.st (.pr (.int .i64) (.pr (.int .i64) (.pr (.int .i64) (.pr (.int .i64) (.pr (.sl (.int .i64)) .unit)))))))], []⟩ (.one .nrm ⟨[], [(6, 6, [], 0), (4, 4, [], 0)], [], [(6, 59, (.st (.pr (.int .i64) (.pr (.int .i64) (.pr (.int .i64) (.pr (.int .i64) (.pr (.sl (.int .i64)) .unit))))))), (4, 59, (.st (.pr (.int .i64) (.pr (.int .i64) (.pr (.int .i64) (.pr (.int .i64) (.pr (.rw 3 (.int .i64)) .unit)))))))], []⟩)) (.seq .no (.seq .no (.cnd .no (.seq (.join (.one .nrm ⟨[2, 0, 12], [(6, 6, [], 0), (4, 4, [], 0)], [(24, .bool)], [(6, 59, (.st (.pr (.int .i64) (.pr (.int .i64) (.pr (.int .i64) (.pr (.int .i64) (.pr (.sl (.int .i64)) .unit))))))), (4, 59, (.st (.pr (.int .i64) (.pr (.int .i64) (.pr (.int .i64) (.pr (.int .i64) (.pr (.rw 3 (.int .i64)) .unit)))))))], []⟩) .no) (.cnd .no (.seq .no (.cnd .no (.seq .no (.cnd (.seq .no (.seq .no (.seq .no (.seq (.seq .no (.loop ⟨[60, 2, 61], [(4, 4, [], 0), (6, 6, [], 0)], [(62, (.int .i64))], [(4, 59, (.st (.pr (.int .i64) (.pr (.int .i64) (.pr (.int .i64) (.pr (.int .i64) (.pr (.rw 3 (.int .i64)) .unit))))))), (6, 59, (.st (.pr (.int .i64) (.pr (.int .i64) (.pr (.int .i64) (.pr (.int .i64) (.pr (.sl (.int .i64)) .unit)))))))], []⟩ (.one (.ext 1) ⟨[2], [(6, 6, [], 0), (4, 4, [], 0)], [], [(6, 59, (.st (.pr (.int .i64) (.pr (.int .i64) (.pr (.int .i64) (.pr (.int .i64) (.pr (.sl (.int .i64)) .unit))))))), (4, 59, (.st (.pr (.int .i64) (.pr (.int .i64) (.pr (.int .i64) (.pr (.int .i64) (.pr (.rw 3 (.int .i64)) .unit)))))))], []⟩) .no)) .no)))) .no)))))))))) .no))
noncomputable def code_finish (a0 : List (Int)) (a1 : (Int) × ((Int) × ((Int) × ((Int) × ((List (Int)) × (Unit)))))) (a2 : Int) : Option (((Int) × ((Int) × ((Int) × ((Int) × ((List (Int)) × (Unit)))))) × (Int)) :=
 (bif (decide ((a1.2.2.1 : Int) = (1 : Int))) then bif (decide ((16383 : Int) < a2)) then some (.inl ((161 : Int), ((0 : Int), ((0 : Int), ((0 : Int), ((0 : Int), (([] : List (Int)), ())))))))
   else some (.inr (((0 : Int), ((0 : Int), ((0 : Int), ((0 : Int), (([] : List (Int)), ()))))), (a1.1, (a1.2.1, (a1.2.2.1, ((Go.IntKind.wrap .i64 (a2 + (1 : Int))), a1.2.2.2.2))))))
   else (bif (decide ((a1.2.2.1 : Int) = (2 : Int))) then some ((decide ((a1.2.2.1 : Int) = (2 : Int))), (((0 : Int), ((0 : Int), ((0 : Int), ((0 : Int), (([] : List (Int)), ()))))), a1))
     else bif (decide ((a1.2.2.1 : Int) = (3 : Int))) then some ((decide ((a1.2.2.1 : Int) = (3 : Int))), (((0 : Int), ((0 : Int), ((0 : Int), ((0 : Int), (([] : List (Int)), ()))))), a1))
     else bif (decide ((a1.2.2.1 : Int) = (4 : Int))) then some ((decide ((a1.2.2.1 : Int) = (4 : Int))), (((0 : Int), ((0 : Int), ((0 : Int), ((0 : Int), (([] : List (Int)), ()))))), a1))
     else some ((decide ((a1.2.2.1 : Int) = (10 : Int))), (((0 : Int), ((0 : Int), ((0 : Int), ((0 : Int), (([] : List (Int)), ()))))), a1))).bind fun r1 =>
   bif r1.1 then some (.inr (r1.2.1, (r1.2.2.1, (r1.2.2.2.1, (r1.2.2.2.2.1, (a2, r1.2.2.2.2.2.2))))))
   else bif (decide ((a1.2.2.1 : Int) = (8 : Int))) then some (.inr (r1.2.1, (r1.2.2.1, (r1.2.2.2.1, (r1.2.2.2.2.1, ((Go.IntKind.wrap .i64 (a2 - (1 : Int))), r1.2.2.2.2.2.2))))))
   else bif (decide ((a1.2.2.1 : Int) = (12 : Int))) then bif (decide ((16 : Int) ≤ a2)) then some (.inl ((161 : Int), ((0 : Int), ((0 : Int), ((0 : Int), ((0 : Int), (([] : List (Int)), ())))))))
   else bif (decide ((Go.IntKind.wrap .i64 ((((List.length a0) : Nat) : Int) - (Go.IntKind.wrap .i64 (r1.2.2.1 + r1.2.2.2.1)))) < (Go.IntKind.wrap .i64 (a2 + (1 : Int))))) then some (.inl ((30 : Int), ((0 : Int), ((0 : Int), ((0 : Int), ((0 : Int), (([] : List (Int)), ())))))))
   else ((Go.Lf.sub a0 (Go.IntKind.wrap .i64 (r1.2.2.1 + r1.2.2.2.1)) (Go.IntKind.wrap .i64 ((Go.IntKind.wrap .i64 ((Go.IntKind.wrap .i64 (r1.2.2.1 + r1.2.2.2.1)) + a2)) + (1 : Int))))).bind fun r2 =>
   (Go.Lf.loopC (σ := (Int) × (((Int) × ((Int) × ((Int) × ((Int) × ((List (Int)) × (Unit)))))) × ((Int) × ((Int) × ((Int) × ((Int) × ((List (Int)) × (Unit)))))))) (κ := ((Int) × ((Int) × ((Int) × ((Int) × ((List (Int)) × (Unit)))))) × ((Int) × ((Int) × ((Int) × ((Int) × ((List (Int)) × (Unit))))))) (fun z3 =>
       bif (decide (z3.1 < (((List.length r2) : Nat) : Int))) then ((Go.Lf.idx r2 z3.1)).bind fun r4 =>
       ((Go.Lf.app (8 : Nat) z3.2.1.2.2.2.2.1 ((Go.IntKind.wrap .i64 r4) :: ([] : List (Int))))).bind fun r5 =>
       some (.inl ((Go.IntKind.wrap .i64 (z3.1 + (1 : Int))), ((z3.2.1.1, (z3.2.1.2.1, (z3.2.1.2.2.1, (z3.2.1.2.2.2.1, (r5, z3.2.1.2.2.2.2.2))))), z3.2.2)))
       else some (.inr (z3.2.2, z3.2.1))) ((0 : Int), (r1.2.2, r1.2.1)) : Option (((Int) × ((Int) × ((Int) × ((Int) × ((List (Int)) × (Unit)))))) × ((Int) × ((Int) × ((Int) × ((Int) × ((List (Int)) × (Unit)))))))).bind fun r6 =>
   some (.inr (r6.1, (r6.2.1, ((Go.IntKind.wrap .i64 (r6.2.2.1 + (Go.IntKind.wrap .i64 (a2 + (1 : Int))))), r6.2.2.2))))
   else bif (decide ((a2 : Int) ≠ (0 : Int))) then some (.inl ((161 : Int), ((0 : Int), ((0 : Int), ((0 : Int), ((0 : Int), (([] : List (Int)), ())))))))
   else some (.inr (r1.2.1, r1.2.2)) : Option (((Int) × ((Int) × ((Int) × ((Int) × ((Int) × ((List (Int)) × (Unit))))))) ⊕ (((Int) × ((Int) × ((Int) × ((Int) × ((List (Int)) × (Unit)))))) × ((Int) × ((Int) × ((Int) × ((Int) × ((List (Int)) × (Unit))))))))).bind fun r7 =>
 Go.Lf.onSum r7 (fun a8 =>
 some (a8.2, a8.1)) (fun b9 =>
 some ((b9.2.1, (b9.2.2.1, (b9.2.2.2.1, (b9.2.2.2.2.1, (b9.2.2.2.2.2.1, b9.2.2.2.2.2.2))))), (0 : Int)))
theorem code_finish_eq (a0 : List (Int)) (a1 : (Int) × ((Int) × ((Int) × ((Int) × ((List (Int)) × (Unit)))))) (a2 : Int) : Go.Lf.fnE code_finishCtx code_finishCode code_finishAnn [.val (.sl (.int .u8)), .val (.st (.pr (.int .i64) (.pr (.int .i64) (.pr (.int .i64) (.pr (.int .i64) (.pr (.rw 3 (.int .i64)) .unit)))))), .val (.int .i64)] [(.st (.pr (.int .i64) (.pr (.int .i64) (.pr (.int .i64) (.pr (.int .i64) (.pr (.sl (.int .i64)) .unit)))))), (.int .i64)] [.cell 6 59, .tmp 7] (a0, a1, a2) = code_finish a0 a1 a2 := by kernel_rfl
noncomputable def code_finishEnt : Nat × Go.Lf.Entry := (59, ⟨[.val (.sl (.int .u8)), .val (.st (.pr (.int .i64) (.pr (.int .i64) (.pr (.int .i64) (.pr (.int .i64) (.pr (.rw 3 (.int .i64)) .unit)))))), .val (.int .i64)], [(.st (.pr (.int .i64) (.pr (.int .i64) (.pr (.int .i64) (.pr (.int .i64) (.pr (.sl (.int .i64)) .unit)))))), (.int .i64)], fun z => code_finish z.1 z.2.1 z.2.2⟩)
theorem code_finish_ok : Go.Lf.EntryOk Go.Proofs.Tryd.prog GG 59 code_finishEnt.2 :=
  Go.Lf.fn_ok (c := code_finishCtx) (code := code_finishCode) (an := code_finishAnn) (slots := [.cell 6 59, .tmp 7]) (fn := Go.Proofs.Tryd.f59) (by kernel_rfl) ⟨Tys_ok, Go.Lf.FnsOk.look .nil, Go.Lf.IpsOk.look .nil⟩ (by kernel_rfl) (by kernel_rfl) (by kernel_rfl) (by kernel_rfl) (by kernel_rfl) (Nat.le_of_ble_eq_true rfl) (by simp [Go.Lf.Ty.top]) (by simp [Go.Lf.Ty.top]) fun z r h => (code_finish_eq z.1 z.2.1 z.2.2).trans h
noncomputable def code_NextCtx : Go.Lf.Ctx := ⟨72, Tys, [octet_NewEnt, octet_Cursor__UintEnt, octet_Cursor__ErrEnt, octet_Cursor__AtEnt, code_finishEnt], [67], [], [(8, (.st (.pr (.int .i64) (.pr (.int .i64) (.pr (.int .i64) (.pr (.int .i64) (.pr (.rw 3 (.int .i64)) .unit))))))), (38, (.st (.pr (.int .i64) (.pr (.int .i64) (.pr (.int .i64) (.pr (.int .i64) (.pr (.rw 3 (.int .i64)) .unit))))))), (5000063, (.dead 45 (.st (.pr .bool .unit))))], []⟩
noncomputable def code_NextCode : Go.Code := (Go.Proofs.Tryd.f30.body).getD .skip
def code_NextAnn : Go.Lf.Ann := (.seq .no (.seq (.seq (.join (.one .nrm ⟨[0, 1], [(4, 4, [], 0)], [(19, .bool)], [(4, 59, (.st (.pr (.int .i64) (.pr (.int .i64) (.pr (.int .i64) (.pr (.int .i64) (.pr (.sl (.int .i64)) .unit)))))))], []⟩) .no) .no) (.seq (.draw 14) (.seq .no (.seq .no (.seq (.join (.more .ret ⟨[], [(4, 4, [], 0)], [(5, (.int .i64))], [(4, 59, (.st (.pr (.int .i64) (.pr (.int .i64) (.pr (.int .i64) (.pr (.int .i64) (.pr (.sl (.int .i64)) .unit)))))))], []⟩ (.one .nrm ⟨[0], [(4, 4, [], 0), (8, 8, [], 0)], [(7, (.int .i64))], [(4, 59, (.st (.pr (.int .i64) (.pr (.int .i64) (.pr (.int .i64) (.pr (.int .i64) (.pr (.sl (.int .i64)) .unit))))))), (8, 59, (.st (.pr (.int .i64) (.pr (.int .i64) (.pr (.int .i64) (.pr (.int .i64) (.pr (.rw 3 (.int .i64)) .unit)))))))], []⟩)) (.seq .no (.cnd (.seq .no (.seq .no (.seq .no (.seq .no (.seq .no (.fzo 45 [[.i, .l]] (.draw 6))))))) .no))) .no))))))
noncomputable def code_Next (a0 : List (Int)) (a1 : Int) : Option (((Int) × ((Int) × ((Int) × ((Int) × ((List (Int)) × (Unit)))))) × (Int)) :=
 (bif (!(decide (a1 < (0 : Int)))) then some ((decide ((((List.length a0) : Nat) : Int) ≤ a1)), ((0 : Int), ((0 : Int), ((0 : Int), ((0 : Int), (([] : List (Int)), ()))))))
   else some (true, ((0 : Int), ((0 : Int), ((0 : Int), ((0 : Int), (([] : List (Int)), ()))))))).bind fun r1 =>
 bif r1.1 then some (((0 : Int), ((0 : Int), ((0 : Int), ((0 : Int), (([] : List (Int)), ()))))), (1 : Int))
 else ((Go.Lf.idx a0 a1)).bind fun r2 =>
 ((Go.Lf.nn (4 : Int) (Int.fdiv r2 ((2 : Int) ^ (Min.min (Int.toNat (4 : Int)) (8 : Nat)))))).bind fun r3 =>
 ((Go.Lf.idx a0 a1)).bind fun r4 =>
 bif (decide (((Go.IntKind.wrap .i64 r3) : Int) = (0 : Int))) then some (((0 : Int), ((0 : Int), ((0 : Int), ((0 : Int), (([] : List (Int)), ()))))), (160 : Int))
 else (bif (decide (((Go.IntKind.wrap .i64 (Go.Lf.bits .and .u8 r4 (15 : Int))) : Int) = (15 : Int))) then ((Go.Lf.sub a0 (Go.IntKind.wrap .i64 (a1 + (1 : Int))) (((List.length a0) : Nat) : Int))).bind fun r5 =>
   ((Go.Fn.octet_New r5)).bind fun r6 =>
   ((Go.Fn.octet_Cursor__Uint r6)).bind fun r7 =>
   ((Go.Fn.octet_Cursor__Err r7.2)).bind fun r8 =>
   bif (decide ((r8.1 : Int) ≠ (0 : Int))) then some (.inl (r8.1, ((0 : Int), ((0 : Int), ((0 : Int), ((0 : Int), (([] : List (Int)), ())))))))
   else bif (decide ((2147483632 : Int) < r7.1)) then some (.inl ((161 : Int), ((0 : Int), ((0 : Int), ((0 : Int), ((0 : Int), (([] : List (Int)), ())))))))
   else ((Go.Fn.octet_Cursor__At (r8.2.1, r8.2.2))).bind fun r9 =>
   some (.inr ((Go.IntKind.wrap .i64 ((Go.IntKind.wrap .i64 r7.1) + (15 : Int))), (r1.2, (a1, ((Go.IntKind.wrap .i64 ((1 : Int) + r9)), ((Go.IntKind.wrap .i64 r3), ((0 : Int), (([] : List (Int)), ()))))))))
   else some (.inr ((Go.IntKind.wrap .i64 (Go.Lf.bits .and .u8 r4 (15 : Int))), (r1.2, (a1, ((1 : Int), ((Go.IntKind.wrap .i64 r3), ((0 : Int), (([] : List (Int)), ())))))))) : Option (((Int) × ((Int) × ((Int) × ((Int) × ((Int) × ((List (Int)) × (Unit))))))) ⊕ ((Int) × (((Int) × ((Int) × ((Int) × ((Int) × ((List (Int)) × (Unit)))))) × ((Int) × ((Int) × ((Int) × ((Int) × ((List (Int)) × (Unit)))))))))).bind fun r10 =>
 Go.Lf.onSum r10 (fun a11 =>
 some (a11.2, a11.1)) (fun b12 =>
 ((Go.Fn.code_finish a0 b12.2.2 b12.1)).bind fun r13 =>
 some (r13.1, r13.2))
theorem code_Next_eq (a0 : List (Int)) (a1 : Int) : Go.Lf.fnE code_NextCtx code_NextCode code_NextAnn [.val (.sl (.int .u8)), .val (.int .i64)] [(.st (.pr (.int .i64) (.pr (.int .i64) (.pr (.int .i64) (.pr (.int .i64) (.pr (.sl (.int .i64)) .unit)))))), (.int .i64)] [.cell 4 59, .tmp 5] (a0, a1) = code_Next a0 a1 := by kernel_rfl
noncomputable def code_NextEnt : Nat × Go.Lf.Entry := (30, ⟨[.val (.sl (.int .u8)), .val (.int .i64)], [(.st (.pr (.int .i64) (.pr (.int .i64) (.pr (.int .i64) (.pr (.int .i64) (.pr (.sl (.int .i64)) .unit)))))), (.int .i64)], fun z => code_Next z.1 z.2⟩)
theorem code_Next_ok : Go.Lf.EntryOk Go.Proofs.Tryd.prog GG 30 code_NextEnt.2 :=
  Go.Lf.fn_ok (c := code_NextCtx) (code := code_NextCode) (an := code_NextAnn) (slots := [.cell 4 59, .tmp 5]) (fn := Go.Proofs.Tryd.f30) (by kernel_rfl) ⟨Tys_ok, Go.Lf.FnsOk.look (.con octet_New_ok (.con octet_Cursor__Uint_ok (.con octet_Cursor__Err_ok (.con octet_Cursor__At_ok (.con code_finish_ok .nil))))), Go.Lf.IpsOk.look .nil⟩ (by kernel_rfl) (by kernel_rfl) (by kernel_rfl) (by kernel_rfl) (by kernel_rfl) (Nat.le_of_ble_eq_true rfl) (by simp [Go.Lf.Ty.top]) (by simp [Go.Lf.Ty.top]) fun z r h => (code_Next_eq z.1 z.2).trans h
noncomputable def code_InstrsCtx : Go.Lf.Ctx := ⟨45, Tys, [code_NextEnt], [2, 5, 16, 26, 42], [], [(2, (.rw 59 (.st (.pr (.int .i64) (.pr (.int .i64) (.pr (.int .i64) (.pr (.int .i64) (.pr (.sl (.int .i64)) .unit)))))))), (5, (.rw 59 (.st (.pr (.int .i64) (.pr (.int .i64) (.pr (.int .i64) (.pr (.int .i64) (.pr (.sl (.int .i64)) .unit)))))))), (26, (.rw 59 (.st (.pr (.int .i64) (.pr (.int .i64) (.pr (.int .i64) (.pr (.int .i64) (.pr (.sl (.int .i64)) .unit)))))))), (42, (.rw 59 (.st (.pr (.int .i64) (.pr (.int .i64) (.pr (.int .i64) (.pr (.int .i64) (.pr (.sl (.int .i64)) .unit))))))))], []⟩
noncomputable def code_InstrsCode : Go.Code := (Go.Proofs.Tryd.f34.body).getD .skip
def code_InstrsAnn : Go.Lf.Ann := (.seq .no (.seq .no (.seq .no (.seq (.seq .no (.loop ⟨[0], [], [(6, (.int .i64)), (5, (.rw 59 (.st (.pr (.int .i64) (.pr (.int .i64) (.pr (.int .i64) (.pr (.int .i64) (.pr (.sl (.int .i64)) .unit))))))))], [], []⟩ (.more (.ext 0) ⟨[0], [], [], [], []⟩ (.one .ret ⟨[], [], [(2, (.rw 59 (.st (.pr (.int .i64) (.pr (.int .i64) (.pr (.int .i64) (.pr (.int .i64) (.pr (.sl (.int .i64)) .unit)))))))), (3, (.int .i64)), (4, (.int .i64))], [], []⟩)) .no)) .no))))
noncomputable def code_Instrs (a0 : List (Int)) : Option ((List ((Int) × ((Int) × ((Int) × ((Int) × ((List (Int)) × (Unit))))))) × ((Int) × (Int))) :=
 bif (decide ((1048576 : Int) < (((List.length a0) : Nat) : Int))) then some (([] : List ((Int) × ((Int) × ((Int) × ((Int) × ((List (Int)) × (Unit))))))), ((0 : Int), (2 : Int)))
 else (Go.Lf.loopC (σ := (Int) × (List ((Int) × ((Int) × ((Int) × ((Int) × ((List (Int)) × (Unit)))))))) (κ := (Unit) ⊕ ((List ((Int) × ((Int) × ((Int) × ((Int) × ((List (Int)) × (Unit))))))) × ((Int) × (Int)))) (fun z1 =>
     bif (decide (z1.1 < (((List.length a0) : Nat) : Int))) then ((Go.Fn.code_Next a0 z1.1)).bind fun r2 =>
     bif (decide ((r2.2 : Int) ≠ (0 : Int))) then some (.inr (.inr (([] : List ((Int) × ((Int) × ((Int) × ((Int) × ((List (Int)) × (Unit))))))), (z1.1, r2.2))))
     else ((Go.Lf.app (56 : Nat) z1.2 (r2.1 :: ([] : List ((Int) × ((Int) × ((Int) × ((Int) × ((List (Int)) × (Unit)))))))))).bind fun r3 =>
     bif (decide ((r2.1.2.2.1 : Int) = (15 : Int))) then bif (decide ((Go.IntKind.wrap .i64 (z1.1 + r2.1.2.1)) < (((List.length a0) : Nat) : Int))) then some (.inr (.inr (([] : List ((Int) × ((Int) × ((Int) × ((Int) × ((List (Int)) × (Unit))))))), ((Go.IntKind.wrap .i64 (z1.1 + r2.1.2.1)), (162 : Int)))))
     else some (.inr (.inr (r3, ((0 : Int), (0 : Int)))))
     else some (.inl ((Go.IntKind.wrap .i64 (z1.1 + r2.1.2.1)), r3))
     else some (.inr (.inl ()))) ((0 : Int), ([] : List ((Int) × ((Int) × ((Int) × ((Int) × ((List (Int)) × (Unit)))))))) : Option ((Unit) ⊕ ((List ((Int) × ((Int) × ((Int) × ((Int) × ((List (Int)) × (Unit))))))) × ((Int) × (Int))))).bind fun r4 =>
 Go.Lf.onSum r4 (fun a5 =>
 some (([] : List ((Int) × ((Int) × ((Int) × ((Int) × ((List (Int)) × (Unit))))))), ((((List.length a0) : Nat) : Int), (162 : Int)))) (fun b6 =>
 some (b6.1, (b6.2.1, b6.2.2)))
theorem code_Instrs_eq (a0 : List (Int)) : Go.Lf.fnE code_InstrsCtx code_InstrsCode code_InstrsAnn [.val (.sl (.int .u8))] [(.rw 59 (.st (.pr (.int .i64) (.pr (.int .i64) (.pr (.int .i64) (.pr (.int .i64) (.pr (.sl (.int .i64)) .unit))))))), (.int .i64), (.int .i64)] [.tmp 2, .tmp 3, .tmp 4] (a0) = code_Instrs a0 := by kernel_rfl
noncomputable def code_InstrsEnt : Nat × Go.Lf.Entry := (34, ⟨[.val (.sl (.int .u8))], [(.rw 59 (.st (.pr (.int .i64) (.pr (.int .i64) (.pr (.int .i64) (.pr (.int .i64) (.pr (.sl (.int .i64)) .unit))))))), (.int .i64), (.int .i64)], fun z => code_Instrs z⟩)
theorem code_Instrs_ok : Go.Lf.EntryOk Go.Proofs.Tryd.prog GG 34 code_InstrsEnt.2 :=
  Go.Lf.fn_ok (c := code_InstrsCtx) (code := code_InstrsCode) (an := code_InstrsAnn) (slots := [.tmp 2, .tmp 3, .tmp 4]) (fn := Go.Proofs.Tryd.f34) (by kernel_rfl) ⟨Tys_ok, Go.Lf.FnsOk.look (.con code_Next_ok .nil), Go.Lf.IpsOk.look .nil⟩ (by kernel_rfl) (by kernel_rfl) (by kernel_rfl) (by kernel_rfl) (by kernel_rfl) (Nat.le_of_ble_eq_true rfl) (by simp [Go.Lf.Ty.top]) (by simp [Go.Lf.Ty.top]) fun z r h => (code_Instrs_eq z).trans h
noncomputable def code_numberedCtx : Go.Lf.Ctx := ⟨11, Tys, [], [], [], [], []⟩
noncomputable def code_numberedCode : Go.Code := (Go.Proofs.Tryd.f81.body).getD .skip
def code_numberedAnn : Go.Lf.Ann := (.seq .no (.seq (.seq .no (.seq (.join (.one .nrm ⟨[], [], [(4, .bool)], [], []⟩) .no) .no)) .no))
noncomputable def code_numbered (a0 : Int) : Option (Bool) :=
 (bif (decide ((a0 : Int) = (1 : Int))) then some (decide ((a0 : Int) = (1 : Int)))
   else bif (decide ((a0 : Int) = (2 : Int))) then some (decide ((a0 : Int) = (2 : Int)))
   else bif (decide ((a0 : Int) = (3 : Int))) then some (decide ((a0 : Int) = (3 : Int)))
   else bif (decide ((a0 : Int) = (4 : Int))) then some (decide ((a0 : Int) = (4 : Int)))
   else bif (decide ((a0 : Int) = (8 : Int))) then some (decide ((a0 : Int) = (8 : Int)))
   else some (decide ((a0 : Int) = (10 : Int)))).bind fun r1 =>
 bif r1 then some true
 else some false
theorem code_numbered_eq (a0 : Int) : Go.Lf.fnE code_numberedCtx code_numberedCode code_numberedAnn [.val (.int .i64)] [.bool] [.tmp 2] (a0) = code_numbered a0 := by kernel_rfl
noncomputable def code_numberedEnt : Nat × Go.Lf.Entry := (81, ⟨[.val (.int .i64)], [.bool], fun z => code_numbered z⟩)
theorem code_numbered_ok : Go.Lf.EntryOk Go.Proofs.Tryd.prog GG 81 code_numberedEnt.2 :=
  Go.Lf.fn_ok (c := code_numberedCtx) (code := code_numberedCode) (an := code_numberedAnn) (slots := [.tmp 2]) (fn := Go.Proofs.Tryd.f81) (by kernel_rfl) ⟨Tys_ok, Go.Lf.FnsOk.look .nil, Go.Lf.IpsOk.look .nil⟩ (by kernel_rfl) (by kernel_rfl) (by kernel_rfl) (by kernel_rfl) (by kernel_rfl) (Nat.le_of_ble_eq_true rfl) (by simp [Go.Lf.Ty.top]) (by simp [Go.Lf.Ty.top]) fun z r h => (code_numbered_eq z).trans h
noncomputable def code_lineCtx : Go.Lf.Ctx := ⟨37, Tys, [strconv_ItoaEnt, code_nameEnt, code_numberedEnt], [], [], [], []⟩
noncomputable def code_lineCode : Go.Code := (Go.Proofs.Tryd.f62.body).getD .skip
def code_lineAnn : Go.Lf.Ann := (.seq .no (.seq (.draw 9) (.seq (.join (.one .nrm ⟨[], [(1, 1, [], 0)], [(3, .str)], [(1, 59, (.st (.pr (.int .i64) (.pr (.int .i64) (.pr (.int .i64) (.pr (.int .i64) (.pr (.sl (.int .i64)) .unit)))))))], []⟩) .no) (.seq (.seq .no (.loop ⟨[24, 25], [], [(26, (.int .i64)), (3, .str)], [], []⟩ (.one (.ext 0) ⟨[], [], [(3, .str)], [], []⟩) .no)) .no))))
noncomputable def code_line (a0 : (Int) × ((Int) × ((Int) × ((Int) × ((List (Int)) × (Unit)))))) : Option (List (UInt8)) :=
 ((Go.Fn.strconv_Itoa a0.1)).bind fun r1 =>
 ((Go.Lf.cat r1 ((32 : UInt8) :: ([] : List (UInt8))))).bind fun r2 =>
 ((Go.Fn.code_name a0.2.2.1)).bind fun r3 =>
 ((Go.Lf.cat r2 r3)).bind fun r4 =>
 (((Go.Fn.code_numbered a0.2.2.1)).bind fun r5 =>
   bif r5 then ((Go.Fn.strconv_Itoa a0.2.2.2.1)).bind fun r6 =>
   ((Go.Lf.cat ((32 : UInt8) :: ([] : List (UInt8))) r6)).bind fun r7 =>
   ((Go.Lf.cat r4 r7)).bind fun r8 =>
   some (r8, a0)
   else some (r4, a0)).bind fun r9 =>
 (Go.Lf.loopC (σ := (Int) × (List (UInt8))) (κ := List (UInt8)) (fun z10 =>
     bif (decide (z10.1 < (((List.length r9.2.2.2.2.2.1) : Nat) : Int))) then ((Go.Lf.idx r9.2.2.2.2.2.1 z10.1)).bind fun r11 =>
     ((Go.Fn.strconv_Itoa r11)).bind fun r12 =>
     ((Go.Lf.cat ((32 : UInt8) :: ([] : List (UInt8))) r12)).bind fun r13 =>
     ((Go.Lf.cat z10.2 r13)).bind fun r14 =>
     some (.inl ((Go.IntKind.wrap .i64 (z10.1 + (1 : Int))), r14))
     else some (.inr z10.2)) ((0 : Int), r9.1) : Option (List (UInt8))).bind fun r15 =>
 some r15
theorem code_line_eq (a0 : (Int) × ((Int) × ((Int) × ((Int) × ((List (Int)) × (Unit)))))) : Go.Lf.fnE code_lineCtx code_lineCode code_lineAnn [.val (.st (.pr (.int .i64) (.pr (.int .i64) (.pr (.int .i64) (.pr (.int .i64) (.pr (.sl (.int .i64)) .unit))))))] [.str] [.tmp 2] (a0) = code_line a0 := by kernel_rfl
noncomputable def code_lineEnt : Nat × Go.Lf.Entry := (62, ⟨[.val (.st (.pr (.int .i64) (.pr (.int .i64) (.pr (.int .i64) (.pr (.int .i64) (.pr (.sl (.int .i64)) .unit))))))], [.str], fun z => code_line z⟩)
theorem code_line_ok : Go.Lf.EntryOk Go.Proofs.Tryd.prog GG 62 code_lineEnt.2 :=
  Go.Lf.fn_ok (c := code_lineCtx) (code := code_lineCode) (an := code_lineAnn) (slots := [.tmp 2]) (fn := Go.Proofs.Tryd.f62) (by kernel_rfl) ⟨Tys_ok, Go.Lf.FnsOk.look (.con strconv_Itoa_ok (.con code_name_ok (.con code_numbered_ok .nil))), Go.Lf.IpsOk.look .nil⟩ (by kernel_rfl) (by kernel_rfl) (by kernel_rfl) (by kernel_rfl) (by kernel_rfl) (Nat.le_of_ble_eq_true rfl) (by simp [Go.Lf.Ty.top]) (by simp [Go.Lf.Ty.top]) fun z r h => (code_line_eq z).trans h
noncomputable def code_ListCtx : Go.Lf.Ctx := ⟨34, Tys, [code_InstrsEnt, code_lineEnt], [2, 8, 11, 27, 33], [], [(2, (.rw 9 .str)), (8, (.rw 9 .str)), (27, (.rw 9 .str)), (33, (.rw 9 .str))], []⟩
noncomputable def code_ListCode : Go.Code := (Go.Proofs.Tryd.f39.body).getD .skip
def code_ListAnn : Go.Lf.Ann := (.seq .no (.seq .no (.seq .no (.seq .no (.seq (.seq .no (.loop ⟨[21, 22], [], [(23, (.int .i64)), (8, (.rw 9 .str))], [], []⟩ (.one (.ext 0) ⟨[], [], [(8, (.rw 9 .str))], [], []⟩) .no)) .no)))))
noncomputable def code_List (a0 : List (Int)) : Option ((List (List (UInt8))) × ((Int) × (Int))) :=
 ((Go.Fn.code_Instrs a0)).bind fun r1 =>
 bif (decide ((r1.2.2 : Int) ≠ (0 : Int))) then some (([] : List (List (UInt8))), (r1.2.1, r1.2.2))
 else (Go.Lf.loopC (σ := (Int) × (List (List (UInt8)))) (κ := List (List (UInt8))) (fun z2 =>
     bif (decide (z2.1 < (((List.length r1.1) : Nat) : Int))) then ((Go.Lf.idx r1.1 z2.1)).bind fun r3 =>
     ((Go.Fn.code_line r3)).bind fun r4 =>
     ((Go.Lf.app (16 : Nat) z2.2 (r4 :: ([] : List (List (UInt8)))))).bind fun r5 =>
     some (.inl ((Go.IntKind.wrap .i64 (z2.1 + (1 : Int))), r5))
     else some (.inr z2.2)) ((0 : Int), ([] : List (List (UInt8)))) : Option (List (List (UInt8)))).bind fun r6 =>
 some (r6, ((0 : Int), (0 : Int)))
theorem code_List_eq (a0 : List (Int)) : Go.Lf.fnE code_ListCtx code_ListCode code_ListAnn [.val (.sl (.int .u8))] [(.rw 9 .str), (.int .i64), (.int .i64)] [.tmp 2, .tmp 3, .tmp 4] (a0) = code_List a0 := by kernel_rfl
noncomputable def code_ListEnt : Nat × Go.Lf.Entry := (39, ⟨[.val (.sl (.int .u8))], [(.rw 9 .str), (.int .i64), (.int .i64)], fun z => code_List z⟩)
theorem code_List_ok : Go.Lf.EntryOk Go.Proofs.Tryd.prog GG 39 code_ListEnt.2 :=
  Go.Lf.fn_ok (c := code_ListCtx) (code := code_ListCode) (an := code_ListAnn) (slots := [.tmp 2, .tmp 3, .tmp 4]) (fn := Go.Proofs.Tryd.f39) (by kernel_rfl) ⟨Tys_ok, Go.Lf.FnsOk.look (.con code_Instrs_ok (.con code_line_ok .nil)), Go.Lf.IpsOk.look .nil⟩ (by kernel_rfl) (by kernel_rfl) (by kernel_rfl) (by kernel_rfl) (by kernel_rfl) (Nat.le_of_ble_eq_true rfl) (by simp [Go.Lf.Ty.top]) (by simp [Go.Lf.Ty.top]) fun z r h => (code_List_eq z).trans h
noncomputable def folioref16_TakeCtx : Go.Lf.Ctx := ⟨82, Tys, [], [], [], [], []⟩
noncomputable def folioref16_TakeCode : Go.Code := (Go.Proofs.Tryd.f60.body).getD .skip
def folioref16_TakeAnn : Go.Lf.Ann := (.seq .no (.seq .no (.seq (.loop ⟨[1, 0], [], [(7, (.int .i64))], [], []⟩ (.one (.ext 0) ⟨[1, 0], [], [(7, (.int .i64))], [], []⟩) (.seq (.seq (.join (.one .nrm ⟨[1, 0, 7], [], [(28, .bool)], [], []⟩) .no) .no) .no)) (.seq .no (.seq .no (.seq (.seq (.join (.one .nrm ⟨[1, 0, 7], [], [(62, .bool)], [], []⟩) .no) .no) (.seq .no (.seq (.seq .no (.loop ⟨[1, 0, 7], [], [(9, (.int .i64)), (8, (.int .u64))], [], []⟩ (.one (.ext 2) ⟨[7], [], [(8, (.int .u64))], [], []⟩) .no)) .no))))))))
noncomputable def folioref16_Take (a0 : List (Int)) (a1 : Int) : Option ((Int) × ((Int) × (Int))) :=
 (Go.Lf.loopC (σ := Int) (κ := Int) (fun z1 =>
     (bif (decide ((Go.IntKind.wrap .i64 (a1 + z1)) < (((List.length a0) : Nat) : Int))) then ((Go.Lf.idx a0 (Go.IntKind.wrap .i64 (a1 + z1)))).bind fun r2 =>
       bif (decide ((128 : Int) ≤ r2)) then some (decide (z1 < (10 : Int)))
       else some false
       else some false).bind fun r3 =>
     bif r3 then some (.inl (Go.IntKind.wrap .i64 (z1 + (1 : Int))))
     else some (.inr z1)) (0 : Int) : Option (Int)).bind fun r4 =>
 bif (decide ((r4 : Int) = (10 : Int))) then some ((0 : Int), ((0 : Int), (31 : Int)))
 else bif (decide ((((List.length a0) : Nat) : Int) ≤ (Go.IntKind.wrap .i64 (a1 + r4)))) then some ((0 : Int), ((0 : Int), (30 : Int)))
 else (bif (decide ((0 : Int) < r4)) then ((Go.Lf.idx a0 (Go.IntKind.wrap .i64 (a1 + r4)))).bind fun r5 =>
   bif (!(decide ((r5 : Int) = (0 : Int)))) then bif (decide ((r4 : Int) = (9 : Int))) then ((Go.Lf.idx a0 (Go.IntKind.wrap .i64 (a1 + r4)))).bind fun r6 =>
   some (decide ((1 : Int) < r6))
   else some false
   else some true
   else bif (decide ((r4 : Int) = (9 : Int))) then ((Go.Lf.idx a0 (Go.IntKind.wrap .i64 (a1 + r4)))).bind fun r7 =>
   some (decide ((1 : Int) < r7))
   else some false).bind fun r8 =>
 bif r8 then some ((0 : Int), ((0 : Int), (31 : Int)))
 else (Go.Lf.loopC (σ := (Int) × (Int)) (κ := Int) (fun z9 =>
     bif (decide ((0 : Int) ≤ z9.1)) then ((Go.Lf.idx a0 (Go.IntKind.wrap .i64 (a1 + z9.1)))).bind fun r10 =>
     ((Go.Lf.nz (128 : Int) (Int.tmod r10 (128 : Int)))).bind fun r11 =>
     some (.inl ((Go.IntKind.wrap .i64 (z9.1 - (1 : Int))), (Go.IntKind.wrap .u64 ((Go.IntKind.wrap .u64 (z9.2 * (128 : Int))) + (Go.IntKind.wrap .u64 r11)))))
     else some (.inr z9.2)) (r4, (0 : Int)) : Option (Int)).bind fun r12 =>
 some (r12, ((Go.IntKind.wrap .i64 (r4 + (1 : Int))), (0 : Int)))
theorem folioref16_Take_eq (a0 : List (Int)) (a1 : Int) : Go.Lf.fnE folioref16_TakeCtx folioref16_TakeCode folioref16_TakeAnn [.val (.sl (.int .u8)), .val (.int .i64)] [(.int .u64), (.int .i64), (.int .i64)] [.tmp 4, .tmp 5, .tmp 6] (a0, a1) = folioref16_Take a0 a1 := by kernel_rfl
noncomputable def folioref16_TakeEnt : Nat × Go.Lf.Entry := (60, ⟨[.val (.sl (.int .u8)), .val (.int .i64)], [(.int .u64), (.int .i64), (.int .i64)], fun z => folioref16_Take z.1 z.2⟩)
theorem folioref16_Take_ok : Go.Lf.EntryOk Go.Proofs.Tryd.prog GG 60 folioref16_TakeEnt.2 :=
  Go.Lf.fn_ok (c := folioref16_TakeCtx) (code := folioref16_TakeCode) (an := folioref16_TakeAnn) (slots := [.tmp 4, .tmp 5, .tmp 6]) (fn := Go.Proofs.Tryd.f60) (by kernel_rfl) ⟨Tys_ok, Go.Lf.FnsOk.look .nil, Go.Lf.IpsOk.look .nil⟩ (by kernel_rfl) (by kernel_rfl) (by kernel_rfl) (by kernel_rfl) (by kernel_rfl) (Nat.le_of_ble_eq_true rfl) (by simp [Go.Lf.Ty.top]) (by simp [Go.Lf.Ty.top]) fun z r h => (folioref16_Take_eq z.1 z.2).trans h
noncomputable def folioref16_NextCtx : Go.Lf.Ctx := ⟨137, Tys, [folioref16_TakeEnt], [40, 117], [], [(12, (.st (.pr (.int .i64) (.pr (.int .i64) (.pr (.int .i64) (.pr (.int .i64) (.pr (.rw 3 (.int .i64)) .unit))))))), (63, (.st (.pr (.int .i64) (.pr (.int .i64) (.pr (.int .i64) (.pr (.int .i64) (.pr (.rw 3 (.int .i64)) .unit))))))), (117, (.rw 3 (.int .i64)))], []⟩
noncomputable def folioref16_NextCode : Go.Code := (Go.Proofs.Tryd.f32.body).getD .skip
def folioref16_NextAnn : Go.Lf.Ann := (.seq .no (.seq (.seq (.join (.one .nrm ⟨[1, 0], [(4, 4, [], 0)], [(21, .bool)], [(4, 59, (.st (.pr (.int .i64) (.pr (.int .i64) (.pr (.int .i64) (.pr (.int .i64) (.pr (.sl (.int .i64)) .unit)))))))], []⟩) .no) .no) (.seq (.draw 15) (.seq .no (.seq (.join (.more .ret ⟨[], [(4, 4, [], 0)], [(5, (.int .i64))], [(4, 59, (.st (.pr (.int .i64) (.pr (.int .i64) (.pr (.int .i64) (.pr (.int .i64) (.pr (.sl (.int .i64)) .unit)))))))], []⟩ (.one .nrm ⟨[1, 0, 6], [(4, 4, [], 0)], [(7, (.int .u64)), (8, (.int .i64))], [(4, 59, (.st (.pr (.int .i64) (.pr (.int .i64) (.pr (.int .i64) (.pr (.int .i64) (.pr (.sl (.int .i64)) .unit)))))))], []⟩)) .no) (.seq .no (.seq .no (.seq (.join (.more .ret ⟨[], [(4, 4, [], 0)], [(5, (.int .i64))], [(4, 59, (.st (.pr (.int .i64) (.pr (.int .i64) (.pr (.int .i64) (.pr (.int .i64) (.pr (.sl (.int .i64)) .unit)))))))], []⟩ (.one .nrm ⟨[], [(4, 4, [], 0), (12, 12, [], 0)], [], [(4, 59, (.st (.pr (.int .i64) (.pr (.int .i64) (.pr (.int .i64) (.pr (.int .i64) (.pr (.sl (.int .i64)) .unit))))))), (12, 59, (.st (.pr (.int .i64) (.pr (.int .i64) (.pr (.int .i64) (.pr (.int .i64) (.pr (.rw 3 (.int .i64)) .unit)))))))], []⟩)) (.seq .no (.seq .no (.cnd .no (.seq (.join (.one .nrm ⟨[7, 8, 1, 0, 67], [(4, 4, [], 0), (12, 12, [], 0)], [(80, .bool)], [(4, 59, (.st (.pr (.int .i64) (.pr (.int .i64) (.pr (.int .i64) (.pr (.int .i64) (.pr (.sl (.int .i64)) .unit))))))), (12, 59, (.st (.pr (.int .i64) (.pr (.int .i64) (.pr (.int .i64) (.pr (.int .i64) (.pr (.rw 3 (.int .i64)) .unit)))))))], []⟩) .no) (.cnd .no (.seq .no (.cnd .no (.seq .no (.cnd (.seq .no (.seq .no (.seq (.seq .no (.loop ⟨[8, 1, 0, 7], [(12, 12, [], 0), (4, 4, [], 0)], [(13, (.int .i64))], [(12, 59, (.st (.pr (.int .i64) (.pr (.int .i64) (.pr (.int .i64) (.pr (.int .i64) (.pr (.rw 3 (.int .i64)) .unit))))))), (4, 59, (.st (.pr (.int .i64) (.pr (.int .i64) (.pr (.int .i64) (.pr (.int .i64) (.pr (.sl (.int .i64)) .unit)))))))], []⟩ (.one (.ext 1) ⟨[7, 8], [(4, 4, [], 0), (12, 12, [], 0)], [], [(4, 59, (.st (.pr (.int .i64) (.pr (.int .i64) (.pr (.int .i64) (.pr (.int .i64) (.pr (.sl (.int .i64)) .unit))))))), (12, 59, (.st (.pr (.int .i64) (.pr (.int .i64) (.pr (.int .i64) (.pr (.int .i64) (.pr (.rw 3 (.int .i64)) .unit)))))))], []⟩) (.seq .no (.seq (.draw 11) .no)))) .no))) .no)))))))))) .no))))))))
noncomputable def folioref16_Next (a0 : List (Int)) (a1 : Int) : Option (((Int) × ((Int) × ((Int) × ((Int) × ((List (Int)) × (Unit)))))) × (Int)) :=
 (bif (!(decide (a1 < (0 : Int)))) then some ((decide ((((List.length a0) : Nat) : Int) ≤ a1)), ((0 : Int), ((0 : Int), ((0 : Int), ((0 : Int), (([] : List (Int)), ()))))))
   else some (true, ((0 : Int), ((0 : Int), ((0 : Int), ((0 : Int), (([] : List (Int)), ()))))))).bind fun r1 =>
 bif r1.1 then some (((0 : Int), ((0 : Int), ((0 : Int), ((0 : Int), (([] : List (Int)), ()))))), (1 : Int))
 else ((Go.Lf.idx a0 a1)).bind fun r2 =>
 ((Go.Lf.nz (16 : Int) (Go.IntKind.wrap .u8 (Int.tdiv r2 (16 : Int))))).bind fun r3 =>
 ((Go.Lf.idx a0 a1)).bind fun r4 =>
 ((Go.Lf.nz (16 : Int) (Int.tmod r4 (16 : Int)))).bind fun r5 =>
 bif (decide (((Go.IntKind.wrap .i64 r3) : Int) = (0 : Int))) then some (((0 : Int), ((0 : Int), ((0 : Int), ((0 : Int), (([] : List (Int)), ()))))), (160 : Int))
 else (bif (decide (((Go.IntKind.wrap .u64 r5) : Int) = (15 : Int))) then ((Go.Fn.folioref16_Take a0 (Go.IntKind.wrap .i64 (a1 + (1 : Int))))).bind fun r6 =>
   bif (decide ((r6.2.2 : Int) ≠ (0 : Int))) then some (.inl (r6.2.2, ((0 : Int), ((0 : Int), ((0 : Int), ((0 : Int), (([] : List (Int)), ())))))))
   else bif (decide ((2147483647 : Int) < r6.1)) then some (.inl ((161 : Int), ((0 : Int), ((0 : Int), ((0 : Int), ((0 : Int), (([] : List (Int)), ())))))))
   else some (.inr ((Go.IntKind.wrap .u64 (r6.1 + (15 : Int))), ((Go.IntKind.wrap .i64 ((1 : Int) + r6.2.1)), r1.2)))
   else some (.inr ((Go.IntKind.wrap .u64 r5), ((1 : Int), r1.2))) : Option (((Int) × ((Int) × ((Int) × ((Int) × ((Int) × ((List (Int)) × (Unit))))))) ⊕ ((Int) × ((Int) × ((Int) × ((Int) × ((Int) × ((Int) × ((List (Int)) × (Unit)))))))))).bind fun r7 =>
 Go.Lf.onSum r7 (fun a8 =>
 some (a8.2, a8.1)) (fun b9 =>
 bif (decide ((2147483647 : Int) < b9.1)) then some (((0 : Int), ((0 : Int), ((0 : Int), ((0 : Int), (([] : List (Int)), ()))))), (161 : Int))
 else (bif (decide (((Go.IntKind.wrap .i64 r3) : Int) = (1 : Int))) then bif (decide ((16383 : Int) < b9.1)) then some (.inl ((161 : Int), ((0 : Int), ((0 : Int), ((0 : Int), ((0 : Int), (([] : List (Int)), ())))))))
   else some (.inr (b9.2.2, (a1, (b9.2.1, ((Go.IntKind.wrap .i64 r3), ((Go.IntKind.wrap .i64 ((Go.IntKind.wrap .i64 b9.1) + (1 : Int))), (([] : List (Int)), ())))))))
   else (bif (decide (((Go.IntKind.wrap .i64 r3) : Int) = (2 : Int))) then some ((decide (((Go.IntKind.wrap .i64 r3) : Int) = (2 : Int))), (b9.2.2, (a1, (b9.2.1, ((Go.IntKind.wrap .i64 r3), ((0 : Int), (([] : List (Int)), ())))))))
     else bif (decide (((Go.IntKind.wrap .i64 r3) : Int) = (3 : Int))) then some ((decide (((Go.IntKind.wrap .i64 r3) : Int) = (3 : Int))), (b9.2.2, (a1, (b9.2.1, ((Go.IntKind.wrap .i64 r3), ((0 : Int), (([] : List (Int)), ())))))))
     else bif (decide (((Go.IntKind.wrap .i64 r3) : Int) = (4 : Int))) then some ((decide (((Go.IntKind.wrap .i64 r3) : Int) = (4 : Int))), (b9.2.2, (a1, (b9.2.1, ((Go.IntKind.wrap .i64 r3), ((0 : Int), (([] : List (Int)), ())))))))
     else some ((decide (((Go.IntKind.wrap .i64 r3) : Int) = (10 : Int))), (b9.2.2, (a1, (b9.2.1, ((Go.IntKind.wrap .i64 r3), ((0 : Int), (([] : List (Int)), ())))))))).bind fun r10 =>
   bif r10.1 then some (.inr (r10.2.1, (r10.2.2.1, (r10.2.2.2.1, (r10.2.2.2.2.1, ((Go.IntKind.wrap .i64 b9.1), r10.2.2.2.2.2.2))))))
   else bif (decide (((Go.IntKind.wrap .i64 r3) : Int) = (8 : Int))) then some (.inr (r10.2.1, (r10.2.2.1, (r10.2.2.2.1, (r10.2.2.2.2.1, ((Go.IntKind.wrap .i64 ((Go.IntKind.wrap .i64 b9.1) - (1 : Int))), r10.2.2.2.2.2.2))))))
   else bif (decide (((Go.IntKind.wrap .i64 r3) : Int) = (12 : Int))) then bif (decide ((15 : Int) < b9.1)) then some (.inl ((161 : Int), ((0 : Int), ((0 : Int), ((0 : Int), ((0 : Int), (([] : List (Int)), ())))))))
   else bif (decide ((((List.length a0) : Nat) : Int) < (Go.IntKind.wrap .i64 ((Go.IntKind.wrap .i64 ((Go.IntKind.wrap .i64 (a1 + b9.2.1)) + (Go.IntKind.wrap .i64 b9.1))) + (1 : Int))))) then some (.inl ((30 : Int), ((0 : Int), ((0 : Int), ((0 : Int), ((0 : Int), (([] : List (Int)), ())))))))
   else (Go.Lf.loopC (σ := (Int) × (((Int) × ((Int) × ((Int) × ((Int) × ((List (Int)) × (Unit)))))) × ((Int) × ((Int) × ((Int) × ((Int) × ((List (Int)) × (Unit)))))))) (κ := ((Int) × ((Int) × ((Int) × ((Int) × ((List (Int)) × (Unit)))))) × ((Int) × ((Int) × ((Int) × ((Int) × ((List (Int)) × (Unit))))))) (fun z11 =>
       bif (decide (z11.1 ≤ (Go.IntKind.wrap .i64 b9.1))) then ((Go.Lf.idx a0 (Go.IntKind.wrap .i64 ((Go.IntKind.wrap .i64 (a1 + b9.2.1)) + z11.1)))).bind fun r12 =>
       ((Go.Lf.app (8 : Nat) z11.2.1.2.2.2.2.1 ((Go.IntKind.wrap .i64 r12) :: ([] : List (Int))))).bind fun r13 =>
       some (.inl ((Go.IntKind.wrap .i64 (z11.1 + (1 : Int))), ((z11.2.1.1, (z11.2.1.2.1, (z11.2.1.2.2.1, (z11.2.1.2.2.2.1, (r13, z11.2.1.2.2.2.2.2))))), z11.2.2)))
       else some (.inr (z11.2.2, z11.2.1))) ((0 : Int), (r10.2.2, r10.2.1)) : Option (((Int) × ((Int) × ((Int) × ((Int) × ((List (Int)) × (Unit)))))) × ((Int) × ((Int) × ((Int) × ((Int) × ((List (Int)) × (Unit)))))))).bind fun r14 =>
   some (.inr (r14.1, (r14.2.1, ((Go.IntKind.wrap .i64 ((Go.IntKind.wrap .i64 (b9.2.1 + (Go.IntKind.wrap .i64 b9.1))) + (1 : Int))), r14.2.2.2))))
   else bif (decide ((b9.1 : Int) ≠ (0 : Int))) then some (.inl ((161 : Int), ((0 : Int), ((0 : Int), ((0 : Int), ((0 : Int), (([] : List (Int)), ())))))))
   else some (.inr (r10.2.1, r10.2.2)) : Option (((Int) × ((Int) × ((Int) × ((Int) × ((Int) × ((List (Int)) × (Unit))))))) ⊕ (((Int) × ((Int) × ((Int) × ((Int) × ((List (Int)) × (Unit)))))) × ((Int) × ((Int) × ((Int) × ((Int) × ((List (Int)) × (Unit))))))))).bind fun r15 =>
 Go.Lf.onSum r15 (fun a16 =>
 some (a16.2, a16.1)) (fun b17 =>
 some ((b17.2.1, (b17.2.2.1, (b17.2.2.2.1, (b17.2.2.2.2.1, (b17.2.2.2.2.2.1, b17.2.2.2.2.2.2))))), (0 : Int))))
theorem folioref16_Next_eq (a0 : List (Int)) (a1 : Int) : Go.Lf.fnE folioref16_NextCtx folioref16_NextCode folioref16_NextAnn [.val (.sl (.int .u8)), .val (.int .i64)] [(.st (.pr (.int .i64) (.pr (.int .i64) (.pr (.int .i64) (.pr (.int .i64) (.pr (.sl (.int .i64)) .unit)))))), (.int .i64)] [.cell 4 59, .tmp 5] (a0, a1) = folioref16_Next a0 a1 := by kernel_rfl
noncomputable def folioref16_NextEnt : Nat × Go.Lf.Entry := (32, ⟨[.val (.sl (.int .u8)), .val (.int .i64)], [(.st (.pr (.int .i64) (.pr (.int .i64) (.pr (.int .i64) (.pr (.int .i64) (.pr (.sl (.int .i64)) .unit)))))), (.int .i64)], fun z => folioref16_Next z.1 z.2⟩)
theorem folioref16_Next_ok : Go.Lf.EntryOk Go.Proofs.Tryd.prog GG 32 folioref16_NextEnt.2 :=
  Go.Lf.fn_ok (c := folioref16_NextCtx) (code := folioref16_NextCode) (an := folioref16_NextAnn) (slots := [.cell 4 59, .tmp 5]) (fn := Go.Proofs.Tryd.f32) (by kernel_rfl) ⟨Tys_ok, Go.Lf.FnsOk.look (.con folioref16_Take_ok .nil), Go.Lf.IpsOk.look .nil⟩ (by kernel_rfl) (by kernel_rfl) (by kernel_rfl) (by kernel_rfl) (by kernel_rfl) (Nat.le_of_ble_eq_true rfl) (by simp [Go.Lf.Ty.top]) (by simp [Go.Lf.Ty.top]) fun z r h => (folioref16_Next_eq z.1 z.2).trans h
noncomputable def folioref16_InstrsCtx : Go.Lf.Ctx := ⟨44, Tys, [folioref16_NextEnt], [2, 5, 16, 26, 42], [], [(2, (.rw 59 (.st (.pr (.int .i64) (.pr (.int .i64) (.pr (.int .i64) (.pr (.int .i64) (.pr (.sl (.int .i64)) .unit)))))))), (5, (.rw 59 (.st (.pr (.int .i64) (.pr (.int .i64) (.pr (.int .i64) (.pr (.int .i64) (.pr (.sl (.int .i64)) .unit)))))))), (26, (.rw 59 (.st (.pr (.int .i64) (.pr (.int .i64) (.pr (.int .i64) (.pr (.int .i64) (.pr (.sl (.int .i64)) .unit)))))))), (42, (.rw 59 (.st (.pr (.int .i64) (.pr (.int .i64) (.pr (.int .i64) (.pr (.int .i64) (.pr (.sl (.int .i64)) .unit))))))))], []⟩
noncomputable def folioref16_InstrsCode : Go.Code := (Go.Proofs.Tryd.f35.body).getD .skip
def folioref16_InstrsAnn : Go.Lf.Ann := (.seq .no (.seq .no (.seq .no (.seq .no (.seq (.loop ⟨[0], [], [(6, (.int .i64)), (5, (.rw 59 (.st (.pr (.int .i64) (.pr (.int .i64) (.pr (.int .i64) (.pr (.int .i64) (.pr (.sl (.int .i64)) .unit))))))))], [], []⟩ (.more (.ext 0) ⟨[], [], [(6, (.int .i64))], [], []⟩ (.one .ret ⟨[], [], [(2, (.rw 59 (.st (.pr (.int .i64) (.pr (.int .i64) (.pr (.int .i64) (.pr (.int .i64) (.pr (.sl (.int .i64)) .unit)))))))), (3, (.int .i64)), (4, (.int .i64))], [], []⟩)) .no) .no)))))
noncomputable def folioref16_Instrs (a0 : List (Int)) : Option ((List ((Int) × ((Int) × ((Int) × ((Int) × ((List (Int)) × (Unit))))))) × ((Int) × (Int))) :=
 bif (decide ((1048576 : Int) < (((List.length a0) : Nat) : Int))) then some (([] : List ((Int) × ((Int) × ((Int) × ((Int) × ((List (Int)) × (Unit))))))), ((0 : Int), (2 : Int)))
 else (Go.Lf.loopC (σ := (Int) × (List ((Int) × ((Int) × ((Int) × ((Int) × ((List (Int)) × (Unit)))))))) (κ := (Int) ⊕ ((List ((Int) × ((Int) × ((Int) × ((Int) × ((List (Int)) × (Unit))))))) × ((Int) × (Int)))) (fun z1 =>
     bif (decide (z1.1 < (((List.length a0) : Nat) : Int))) then ((Go.Fn.folioref16_Next a0 z1.1)).bind fun r2 =>
     bif (decide ((r2.2 : Int) ≠ (0 : Int))) then some (.inr (.inr (([] : List ((Int) × ((Int) × ((Int) × ((Int) × ((List (Int)) × (Unit))))))), (z1.1, r2.2))))
     else ((Go.Lf.app (56 : Nat) z1.2 (r2.1 :: ([] : List ((Int) × ((Int) × ((Int) × ((Int) × ((List (Int)) × (Unit)))))))))).bind fun r3 =>
     bif (decide ((r2.1.2.2.1 : Int) = (15 : Int))) then bif (decide ((Go.IntKind.wrap .i64 (z1.1 + r2.1.2.1)) < (((List.length a0) : Nat) : Int))) then some (.inr (.inr (([] : List ((Int) × ((Int) × ((Int) × ((Int) × ((List (Int)) × (Unit))))))), ((Go.IntKind.wrap .i64 (z1.1 + r2.1.2.1)), (162 : Int)))))
     else some (.inr (.inr (r3, ((0 : Int), (0 : Int)))))
     else some (.inl ((Go.IntKind.wrap .i64 (z1.1 + r2.1.2.1)), r3))
     else some (.inr (.inl z1.1))) ((0 : Int), ([] : List ((Int) × ((Int) × ((Int) × ((Int) × ((List (Int)) × (Unit)))))))) : Option ((Int) ⊕ ((List ((Int) × ((Int) × ((Int) × ((Int) × ((List (Int)) × (Unit))))))) × ((Int) × (Int))))).bind fun r4 =>
 Go.Lf.onSum r4 (fun a5 =>
 some (([] : List ((Int) × ((Int) × ((Int) × ((Int) × ((List (Int)) × (Unit))))))), (a5, (162 : Int)))) (fun b6 =>
 some (b6.1, (b6.2.1, b6.2.2)))
theorem folioref16_Instrs_eq (a0 : List (Int)) : Go.Lf.fnE folioref16_InstrsCtx folioref16_InstrsCode folioref16_InstrsAnn [.val (.sl (.int .u8))] [(.rw 59 (.st (.pr (.int .i64) (.pr (.int .i64) (.pr (.int .i64) (.pr (.int .i64) (.pr (.sl (.int .i64)) .unit))))))), (.int .i64), (.int .i64)] [.tmp 2, .tmp 3, .tmp 4] (a0) = folioref16_Instrs a0 := by kernel_rfl
noncomputable def folioref16_InstrsEnt : Nat × Go.Lf.Entry := (35, ⟨[.val (.sl (.int .u8))], [(.rw 59 (.st (.pr (.int .i64) (.pr (.int .i64) (.pr (.int .i64) (.pr (.int .i64) (.pr (.sl (.int .i64)) .unit))))))), (.int .i64), (.int .i64)], fun z => folioref16_Instrs z⟩)
theorem folioref16_Instrs_ok : Go.Lf.EntryOk Go.Proofs.Tryd.prog GG 35 folioref16_InstrsEnt.2 :=
  Go.Lf.fn_ok (c := folioref16_InstrsCtx) (code := folioref16_InstrsCode) (an := folioref16_InstrsAnn) (slots := [.tmp 2, .tmp 3, .tmp 4]) (fn := Go.Proofs.Tryd.f35) (by kernel_rfl) ⟨Tys_ok, Go.Lf.FnsOk.look (.con folioref16_Next_ok .nil), Go.Lf.IpsOk.look .nil⟩ (by kernel_rfl) (by kernel_rfl) (by kernel_rfl) (by kernel_rfl) (by kernel_rfl) (Nat.le_of_ble_eq_true rfl) (by simp [Go.Lf.Ty.top]) (by simp [Go.Lf.Ty.top]) fun z r h => (folioref16_Instrs_eq z).trans h
noncomputable def folioref16_NameCtx : Go.Lf.Ctx := ⟨9, Tys, [], [], [], [], []⟩
noncomputable def folioref16_NameCode : Go.Code := (Go.Proofs.Tryd.f82.body).getD .skip
def folioref16_NameAnn : Go.Lf.Ann := .no
noncomputable def folioref16_Name (a0 : Int) : Option (List (UInt8)) :=
 ((Go.Lf.idx (([] : List (UInt8)) :: (((116 : UInt8) :: ((101 : UInt8) :: ((120 : UInt8) :: ((116 : UInt8) :: ([] : List (UInt8)))))) :: (((115 : UInt8) :: ((116 : UInt8) :: ((121 : UInt8) :: ((108 : UInt8) :: ((101 : UInt8) :: ([] : List (UInt8))))))) :: (((108 : UInt8) :: ((105 : UInt8) :: ((110 : UInt8) :: ((107 : UInt8) :: ([] : List (UInt8)))))) :: (((110 : UInt8) :: ((111 : UInt8) :: ((116 : UInt8) :: ((101 : UInt8) :: ([] : List (UInt8)))))) :: (((99 : UInt8) :: ((108 : UInt8) :: ((111 : UInt8) :: ((115 : UInt8) :: ((101 : UInt8) :: ([] : List (UInt8))))))) :: (((116 : UInt8) :: ((97 : UInt8) :: ((98 : UInt8) :: ([] : List (UInt8))))) :: (((98 : UInt8) :: ((114 : UInt8) :: ((101 : UInt8) :: ((97 : UInt8) :: ((107 : UInt8) :: ([] : List (UInt8))))))) :: (((112 : UInt8) :: ((97 : UInt8) :: ((114 : UInt8) :: ((97 : UInt8) :: ([] : List (UInt8)))))) :: (((100 : UInt8) :: ((111 : UInt8) :: ((110 : UInt8) :: ((101 : UInt8) :: ([] : List (UInt8)))))) :: (((108 : UInt8) :: ((105 : UInt8) :: ((115 : UInt8) :: ((116 : UInt8) :: ([] : List (UInt8)))))) :: (((105 : UInt8) :: ((116 : UInt8) :: ((101 : UInt8) :: ((109 : UInt8) :: ([] : List (UInt8)))))) :: (((116 : UInt8) :: ((97 : UInt8) :: ((98 : UInt8) :: ((108 : UInt8) :: ((101 : UInt8) :: ([] : List (UInt8))))))) :: (((114 : UInt8) :: ((111 : UInt8) :: ((119 : UInt8) :: ([] : List (UInt8))))) :: (((101 : UInt8) :: ((110 : UInt8) :: ((100 : UInt8) :: ([] : List (UInt8))))) :: (((104 : UInt8) :: ((97 : UInt8) :: ((108 : UInt8) :: ((116 : UInt8) :: ([] : List (UInt8)))))) :: ([] : List (List (UInt8))))))))))))))))))) a0)).bind fun r1 =>
 some r1
theorem folioref16_Name_eq (a0 : Int) : Go.Lf.fnE folioref16_NameCtx folioref16_NameCode folioref16_NameAnn [.val (.int .i64)] [.str] [.tmp 2] (a0) = folioref16_Name a0 := by kernel_rfl
noncomputable def folioref16_NameEnt : Nat × Go.Lf.Entry := (82, ⟨[.val (.int .i64)], [.str], fun z => folioref16_Name z⟩)
theorem folioref16_Name_ok : Go.Lf.EntryOk Go.Proofs.Tryd.prog GG 82 folioref16_NameEnt.2 :=
  Go.Lf.fn_ok (c := folioref16_NameCtx) (code := folioref16_NameCode) (an := folioref16_NameAnn) (slots := [.tmp 2]) (fn := Go.Proofs.Tryd.f82) (by kernel_rfl) ⟨Tys_ok, Go.Lf.FnsOk.look .nil, Go.Lf.IpsOk.look .nil⟩ (by kernel_rfl) (by kernel_rfl) (by kernel_rfl) (by kernel_rfl) (by kernel_rfl) (Nat.le_of_ble_eq_true rfl) (by simp [Go.Lf.Ty.top]) (by simp [Go.Lf.Ty.top]) fun z r h => (folioref16_Name_eq z).trans h
noncomputable def folioref16_numberedCtx : Go.Lf.Ctx := ⟨17, Tys, [], [], [], [], []⟩
noncomputable def folioref16_numberedCode : Go.Code := (Go.Proofs.Tryd.f83.body).getD .skip
def folioref16_numberedAnn : Go.Lf.Ann := (.seq .no (.seq (.join (.one .nrm ⟨[], [], [(2, .bool)], [], []⟩) .no) .no))
noncomputable def folioref16_numbered (a0 : Int) : Option (Bool) :=
 (bif (decide ((1 : Int) ≤ a0)) then bif (!(decide (a0 ≤ (4 : Int)))) then bif (!(decide ((a0 : Int) = (8 : Int)))) then some (decide ((a0 : Int) = (10 : Int)))
   else some true
   else some true
   else bif (!(decide ((a0 : Int) = (8 : Int)))) then some (decide ((a0 : Int) = (10 : Int)))
   else some true).bind fun r1 =>
 some r1
theorem folioref16_numbered_eq (a0 : Int) : Go.Lf.fnE folioref16_numberedCtx folioref16_numberedCode folioref16_numberedAnn [.val (.int .i64)] [.bool] [.tmp 2] (a0) = folioref16_numbered a0 := by kernel_rfl
noncomputable def folioref16_numberedEnt : Nat × Go.Lf.Entry := (83, ⟨[.val (.int .i64)], [.bool], fun z => folioref16_numbered z⟩)
theorem folioref16_numbered_ok : Go.Lf.EntryOk Go.Proofs.Tryd.prog GG 83 folioref16_numberedEnt.2 :=
  Go.Lf.fn_ok (c := folioref16_numberedCtx) (code := folioref16_numberedCode) (an := folioref16_numberedAnn) (slots := [.tmp 2]) (fn := Go.Proofs.Tryd.f83) (by kernel_rfl) ⟨Tys_ok, Go.Lf.FnsOk.look .nil, Go.Lf.IpsOk.look .nil⟩ (by kernel_rfl) (by kernel_rfl) (by kernel_rfl) (by kernel_rfl) (by kernel_rfl) (Nat.le_of_ble_eq_true rfl) (by simp [Go.Lf.Ty.top]) (by simp [Go.Lf.Ty.top]) fun z r h => (folioref16_numbered_eq z).trans h
noncomputable def folioref16_LineCtx : Go.Lf.Ctx := ⟨39, Tys, [strconv_ItoaEnt, folioref16_NameEnt, folioref16_numberedEnt], [], [], [], []⟩
noncomputable def folioref16_LineCode : Go.Code := (Go.Proofs.Tryd.f63.body).getD .skip
def folioref16_LineAnn : Go.Lf.Ann := (.seq .no (.seq (.draw 9) (.seq (.join (.one .nrm ⟨[], [(1, 1, [], 0)], [(3, .str)], [(1, 59, (.st (.pr (.int .i64) (.pr (.int .i64) (.pr (.int .i64) (.pr (.int .i64) (.pr (.sl (.int .i64)) .unit)))))))], []⟩) .no) (.seq (.seq .no (.loop ⟨[], [(1, 1, [], 0)], [(4, (.int .i64)), (3, .str)], [(1, 59, (.st (.pr (.int .i64) (.pr (.int .i64) (.pr (.int .i64) (.pr (.int .i64) (.pr (.sl (.int .i64)) .unit)))))))], []⟩ (.one (.ext 0) ⟨[], [], [(3, .str)], [], []⟩) .no)) .no))))
noncomputable def folioref16_Line (a0 : (Int) × ((Int) × ((Int) × ((Int) × ((List (Int)) × (Unit)))))) : Option (List (UInt8)) :=
 ((Go.Fn.strconv_Itoa a0.1)).bind fun r1 =>
 ((Go.Lf.cat r1 ((32 : UInt8) :: ([] : List (UInt8))))).bind fun r2 =>
 ((Go.Fn.folioref16_Name a0.2.2.1)).bind fun r3 =>
 ((Go.Lf.cat r2 r3)).bind fun r4 =>
 (((Go.Fn.folioref16_numbered a0.2.2.1)).bind fun r5 =>
   bif r5 then ((Go.Lf.cat r4 ((32 : UInt8) :: ([] : List (UInt8))))).bind fun r6 =>
   ((Go.Fn.strconv_Itoa a0.2.2.2.1)).bind fun r7 =>
   ((Go.Lf.cat r6 r7)).bind fun r8 =>
   some (r8, a0)
   else some (r4, a0)).bind fun r9 =>
 (Go.Lf.loopC (σ := (Int) × ((List (UInt8)) × ((Int) × ((Int) × ((Int) × ((Int) × ((List (Int)) × (Unit)))))))) (κ := List (UInt8)) (fun z10 =>
     bif (decide (z10.1 < (((List.length z10.2.2.2.2.2.2.1) : Nat) : Int))) then ((Go.Lf.cat z10.2.1 ((32 : UInt8) :: ([] : List (UInt8))))).bind fun r11 =>
     ((Go.Lf.idx z10.2.2.2.2.2.2.1 z10.1)).bind fun r12 =>
     ((Go.Fn.strconv_Itoa r12)).bind fun r13 =>
     ((Go.Lf.cat r11 r13)).bind fun r14 =>
     some (.inl ((Go.IntKind.wrap .i64 (z10.1 + (1 : Int))), (r14, z10.2.2)))
     else some (.inr z10.2.1)) ((0 : Int), (r9.1, r9.2)) : Option (List (UInt8))).bind fun r15 =>
 some r15
theorem folioref16_Line_eq (a0 : (Int) × ((Int) × ((Int) × ((Int) × ((List (Int)) × (Unit)))))) : Go.Lf.fnE folioref16_LineCtx folioref16_LineCode folioref16_LineAnn [.val (.st (.pr (.int .i64) (.pr (.int .i64) (.pr (.int .i64) (.pr (.int .i64) (.pr (.sl (.int .i64)) .unit))))))] [.str] [.tmp 2] (a0) = folioref16_Line a0 := by kernel_rfl
noncomputable def folioref16_LineEnt : Nat × Go.Lf.Entry := (63, ⟨[.val (.st (.pr (.int .i64) (.pr (.int .i64) (.pr (.int .i64) (.pr (.int .i64) (.pr (.sl (.int .i64)) .unit))))))], [.str], fun z => folioref16_Line z⟩)
theorem folioref16_Line_ok : Go.Lf.EntryOk Go.Proofs.Tryd.prog GG 63 folioref16_LineEnt.2 :=
  Go.Lf.fn_ok (c := folioref16_LineCtx) (code := folioref16_LineCode) (an := folioref16_LineAnn) (slots := [.tmp 2]) (fn := Go.Proofs.Tryd.f63) (by kernel_rfl) ⟨Tys_ok, Go.Lf.FnsOk.look (.con strconv_Itoa_ok (.con folioref16_Name_ok (.con folioref16_numbered_ok .nil))), Go.Lf.IpsOk.look .nil⟩ (by kernel_rfl) (by kernel_rfl) (by kernel_rfl) (by kernel_rfl) (by kernel_rfl) (Nat.le_of_ble_eq_true rfl) (by simp [Go.Lf.Ty.top]) (by simp [Go.Lf.Ty.top]) fun z r h => (folioref16_Line_eq z).trans h
noncomputable def folioref16_ListingCtx : Go.Lf.Ctx := ⟨35, Tys, [folioref16_InstrsEnt, folioref16_LineEnt], [2, 8, 10, 26, 34], [], [(2, (.rw 9 .str)), (8, (.rw 9 .str)), (26, (.rw 9 .str)), (34, (.rw 9 .str))], []⟩
noncomputable def folioref16_ListingCode : Go.Code := (Go.Proofs.Tryd.f40.body).getD .skip
def folioref16_ListingAnn : Go.Lf.Ann := (.seq .no (.seq .no (.seq .no (.seq .no (.seq (.seq .no (.loop ⟨[5], [], [(9, (.int .i64)), (8, (.rw 9 .str))], [], []⟩ (.one (.ext 0) ⟨[], [], [(8, (.rw 9 .str))], [], []⟩) .no)) .no)))))
noncomputable def folioref16_Listing (a0 : List (Int)) : Option ((List (List (UInt8))) × ((Int) × (Int))) :=
 ((Go.Fn.folioref16_Instrs a0)).bind fun r1 =>
 bif (decide ((r1.2.2 : Int) ≠ (0 : Int))) then some (([] : List (List (UInt8))), (r1.2.1, r1.2.2))
 else (Go.Lf.loopC (σ := (Int) × (List (List (UInt8)))) (κ := List (List (UInt8))) (fun z2 =>
     bif (decide (z2.1 < (((List.length r1.1) : Nat) : Int))) then ((Go.Lf.idx r1.1 z2.1)).bind fun r3 =>
     ((Go.Fn.folioref16_Line r3)).bind fun r4 =>
     ((Go.Lf.app (16 : Nat) z2.2 (r4 :: ([] : List (List (UInt8)))))).bind fun r5 =>
     some (.inl ((Go.IntKind.wrap .i64 (z2.1 + (1 : Int))), r5))
     else some (.inr z2.2)) ((0 : Int), ([] : List (List (UInt8)))) : Option (List (List (UInt8)))).bind fun r6 =>
 some (r6, ((0 : Int), (0 : Int)))
theorem folioref16_Listing_eq (a0 : List (Int)) : Go.Lf.fnE folioref16_ListingCtx folioref16_ListingCode folioref16_ListingAnn [.val (.sl (.int .u8))] [(.rw 9 .str), (.int .i64), (.int .i64)] [.tmp 2, .tmp 3, .tmp 4] (a0) = folioref16_Listing a0 := by kernel_rfl
noncomputable def folioref16_ListingEnt : Nat × Go.Lf.Entry := (40, ⟨[.val (.sl (.int .u8))], [(.rw 9 .str), (.int .i64), (.int .i64)], fun z => folioref16_Listing z⟩)
theorem folioref16_Listing_ok : Go.Lf.EntryOk Go.Proofs.Tryd.prog GG 40 folioref16_ListingEnt.2 :=
  Go.Lf.fn_ok (c := folioref16_ListingCtx) (code := folioref16_ListingCode) (an := folioref16_ListingAnn) (slots := [.tmp 2, .tmp 3, .tmp 4]) (fn := Go.Proofs.Tryd.f40) (by kernel_rfl) ⟨Tys_ok, Go.Lf.FnsOk.look (.con folioref16_Instrs_ok (.con folioref16_Line_ok .nil)), Go.Lf.IpsOk.look .nil⟩ (by kernel_rfl) (by kernel_rfl) (by kernel_rfl) (by kernel_rfl) (by kernel_rfl) (Nat.le_of_ble_eq_true rfl) (by simp [Go.Lf.Ty.top]) (by simp [Go.Lf.Ty.top]) fun z r h => (folioref16_Listing_eq z).trans h
noncomputable def foliolaw16_linesCtx : Go.Lf.Ctx := ⟨26, Tys, [], [], [], [], []⟩
noncomputable def foliolaw16_linesCode : Go.Code := (Go.Proofs.Tryd.f41.body).getD .skip
def foliolaw16_linesAnn : Go.Lf.Ann := (.seq .no (.seq .no (.seq (.seq .no (.loop ⟨[1, 0], [], [(5, (.int .i64))], [], []⟩ (.more (.ext 0) ⟨[], [], [], [], []⟩ (.one .ret ⟨[], [], [(4, .bool)], [], []⟩)) (.seq .no (.seq (.seq (.draw 9) .no) .no)))) .no)))
noncomputable def foliolaw16_lines (a0 : List (List (UInt8))) (a1 : List (List (UInt8))) : Option (Bool) :=
 bif (decide (((((List.length a0) : Nat) : Int) : Int) ≠ (((List.length a1) : Nat) : Int))) then some false
 else (Go.Lf.loopC (σ := Int) (κ := (Unit) ⊕ (Bool)) (fun z1 =>
     bif (decide (z1 < (((List.length a0) : Nat) : Int))) then ((Go.Lf.idx a0 z1)).bind fun r2 =>
     ((Go.Lf.idx a1 z1)).bind fun r3 =>
     bif (decide ((r2 : List (UInt8)) ≠ r3)) then some (.inr (.inr false))
     else some (.inl (Go.IntKind.wrap .i64 (z1 + (1 : Int))))
     else some (.inr (.inl ()))) (0 : Int) : Option ((Unit) ⊕ (Bool))).bind fun r4 =>
 Go.Lf.onSum r4 (fun a5 =>
 some true) (fun b6 =>
 some b6)
theorem foliolaw16_lines_eq (a0 : List (List (UInt8))) (a1 : List (List (UInt8))) : Go.Lf.fnE foliolaw16_linesCtx foliolaw16_linesCode foliolaw16_linesAnn [.val (.sl .str), .val (.sl .str)] [.bool] [.tmp 4] (a0, a1) = foliolaw16_lines a0 a1 := by kernel_rfl
noncomputable def foliolaw16_linesEnt : Nat × Go.Lf.Entry := (41, ⟨[.val (.sl .str), .val (.sl .str)], [.bool], fun z => foliolaw16_lines z.1 z.2⟩)
theorem foliolaw16_lines_ok : Go.Lf.EntryOk Go.Proofs.Tryd.prog GG 41 foliolaw16_linesEnt.2 :=
  Go.Lf.fn_ok (c := foliolaw16_linesCtx) (code := foliolaw16_linesCode) (an := foliolaw16_linesAnn) (slots := [.tmp 4]) (fn := Go.Proofs.Tryd.f41) (by kernel_rfl) ⟨Tys_ok, Go.Lf.FnsOk.look .nil, Go.Lf.IpsOk.look .nil⟩ (by kernel_rfl) (by kernel_rfl) (by kernel_rfl) (by kernel_rfl) (by kernel_rfl) (Nat.le_of_ble_eq_true rfl) (by simp [Go.Lf.Ty.top]) (by simp [Go.Lf.Ty.top]) fun z r h => (foliolaw16_lines_eq z.1 z.2).trans h
noncomputable def code_operandCtx : Go.Lf.Ctx := ⟨78, Tys, [], [], [], [], []⟩
noncomputable def code_operandCode : Go.Code := (Go.Proofs.Tryd.f50.body).getD .skip
def code_operandAnn : Go.Lf.Ann := (.seq .no (.seq (.seq .no (.seq (.seq (.seq (.join (.more .nrm ⟨[], [(1, 1, [], 0)], [], [(1, 95, (.st (.pr (.int .i64) (.pr (.int .i64) (.pr .str (.pr (.sl (.int .i64)) .unit))))))], []⟩ (.more (.ext 6) ⟨[], [(1, 1, [], 0)], [], [(1, 95, (.st (.pr (.int .i64) (.pr (.int .i64) (.pr .str (.pr (.sl (.int .i64)) .unit))))))], []⟩ (.more (.ext 7) ⟨[], [(1, 1, [], 0)], [], [(1, 95, (.st (.pr (.int .i64) (.pr (.int .i64) (.pr .str (.pr (.sl (.int .i64)) .unit))))))], []⟩ (.more (.ext 0) ⟨[], [], [], [], []⟩ (.one .ret ⟨[], [], [(2, (.int .i64)), (3, .bool)], [], []⟩))))) (.seq .no (.seq (.seq (.draw 9) .no) .no))) (.seq (.seq (.join (.one .nrm ⟨[], [], [(2, (.int .i64)), (3, .bool)], [], []⟩) (.draw 12)) .no) .no)) (.seq (.seq (.join (.one .nrm ⟨[], [], [(2, (.int .i64)), (3, .bool)], [], []⟩) (.draw 13)) .no) .no)) (.seq (.seq (.seq .no (.loop ⟨[51, 52], [(1, 1, [], 0)], [(53, (.int .i64))], [(1, 95, (.st (.pr (.int .i64) (.pr (.int .i64) (.pr .str (.pr (.sl (.int .i64)) .unit))))))], []⟩ (.more (.ext 8) ⟨[], [(1, 1, [], 0)], [], [(1, 95, (.st (.pr (.int .i64) (.pr (.int .i64) (.pr .str (.pr (.sl (.int .i64)) .unit))))))], []⟩ (.one .ret ⟨[], [], [(2, (.int .i64)), (3, .bool)], [], []⟩)) (.seq .no (.seq .no (.seq (.seq .no (.seq (.join (.one .nrm ⟨[51, 52, 53], [(1, 1, [], 0)], [(62, .bool)], [(1, 95, (.st (.pr (.int .i64) (.pr (.int .i64) (.pr .str (.pr (.sl (.int .i64)) .unit))))))], []⟩) .no) .no)) .no))))) (.seq (.join (.one .nrm ⟨[], [], [(2, (.int .i64)), (3, .bool)], [], []⟩) (.draw 16)) .no)) .no))) .no))
noncomputable def code_operand (a0 : (Int) × ((Int) × ((List (UInt8)) × ((List (Int)) × (Unit))))) : Option ((Int) × (Bool)) :=
 (bif (decide ((a0.1 : Int) = (1 : Int))) then some (.inr (.inr (.inr (.inr ((Go.IntKind.wrap .i64 ((((List.length a0.2.2.1) : Nat) : Int) - (1 : Int))), (decide ((a0.2.2.1 : List (UInt8)) ≠ ([] : List (UInt8)))))))))
   else bif (decide ((a0.1 : Int) = (2 : Int))) then some (.inl a0)
   else bif (decide ((a0.1 : Int) = (3 : Int))) then some (.inl a0)
   else bif (decide ((a0.1 : Int) = (4 : Int))) then some (.inl a0)
   else bif (decide ((a0.1 : Int) = (10 : Int))) then some (.inl a0)
   else bif (decide ((a0.1 : Int) = (8 : Int))) then some (.inr (.inl a0))
   else bif (decide ((a0.1 : Int) = (12 : Int))) then some (.inr (.inr (.inl a0)))
   else some (.inr (.inr (.inr (.inl ())))) : Option (((Int) × ((Int) × ((List (UInt8)) × ((List (Int)) × (Unit))))) ⊕ (((Int) × ((Int) × ((List (UInt8)) × ((List (Int)) × (Unit))))) ⊕ (((Int) × ((Int) × ((List (UInt8)) × ((List (Int)) × (Unit))))) ⊕ ((Unit) ⊕ ((Int) × (Bool))))))).bind fun r1 =>
 Go.Lf.onSum r1 (fun a2 =>
 (bif (decide ((0 : Int) ≤ a2.2.1)) then some (a2.2.1, (decide (a2.2.1 ≤ (2147483647 : Int))))
   else some (a2.2.1, false)).bind fun r3 =>
 some (r3.1, r3.2)) (fun b4 =>
 Go.Lf.onSum b4 (fun a5 =>
 (bif (decide ((-(1 : Int)) ≤ a5.2.1)) then some ((Go.IntKind.wrap .i64 (a5.2.1 + (1 : Int))), (decide (a5.2.1 ≤ (2147483647 : Int))))
   else some ((Go.IntKind.wrap .i64 (a5.2.1 + (1 : Int))), false)).bind fun r6 =>
 some (r6.1, r6.2)) (fun b7 =>
 Go.Lf.onSum b7 (fun a8 =>
 (Go.Lf.loopC (σ := (Int) × ((Int) × ((Int) × ((List (UInt8)) × ((List (Int)) × (Unit)))))) (κ := ((Int) × ((Int) × ((List (UInt8)) × ((List (Int)) × (Unit))))) ⊕ ((Int) × (Bool))) (fun z9 =>
     bif (decide (z9.1 < (((List.length a8.2.2.2.1) : Nat) : Int))) then ((Go.Lf.idx a8.2.2.2.1 z9.1)).bind fun r10 =>
     (bif (!(decide (r10 < (0 : Int)))) then some ((decide ((255 : Int) < r10)), z9.2)
       else some (true, z9.2)).bind fun r11 =>
     bif r11.1 then some (.inr (.inr ((0 : Int), false)))
     else some (.inl ((Go.IntKind.wrap .i64 (z9.1 + (1 : Int))), r11.2))
     else some (.inr (.inl z9.2))) ((0 : Int), a8) : Option (((Int) × ((Int) × ((List (UInt8)) × ((List (Int)) × (Unit))))) ⊕ ((Int) × (Bool)))).bind fun r12 =>
 Go.Lf.onSum r12 (fun a13 =>
 (bif (decide ((1 : Int) ≤ (((List.length a13.2.2.2.1) : Nat) : Int))) then some ((Go.IntKind.wrap .i64 ((((List.length a13.2.2.2.1) : Nat) : Int) - (1 : Int))), (decide ((((List.length a13.2.2.2.1) : Nat) : Int) ≤ (16 : Int))))
   else some ((Go.IntKind.wrap .i64 ((((List.length a13.2.2.2.1) : Nat) : Int) - (1 : Int))), false)).bind fun r14 =>
 some (r14.1, r14.2)) (fun b15 =>
 some (b15.1, b15.2))) (fun b16 =>
 Go.Lf.onSum b16 (fun a17 =>
 some ((0 : Int), true)) (fun b18 =>
 some (b18.1, b18.2)))))
theorem code_operand_eq (a0 : (Int) × ((Int) × ((List (UInt8)) × ((List (Int)) × (Unit))))) : Go.Lf.fnE code_operandCtx code_operandCode code_operandAnn [.val (.st (.pr (.int .i64) (.pr (.int .i64) (.pr .str (.pr (.sl (.int .i64)) .unit)))))] [(.int .i64), .bool] [.tmp 2, .tmp 3] (a0) = code_operand a0 := by kernel_rfl
noncomputable def code_operandEnt : Nat × Go.Lf.Entry := (50, ⟨[.val (.st (.pr (.int .i64) (.pr (.int .i64) (.pr .str (.pr (.sl (.int .i64)) .unit)))))], [(.int .i64), .bool], fun z => code_operand z⟩)
theorem code_operand_ok : Go.Lf.EntryOk Go.Proofs.Tryd.prog GG 50 code_operandEnt.2 :=
  Go.Lf.fn_ok (c := code_operandCtx) (code := code_operandCode) (an := code_operandAnn) (slots := [.tmp 2, .tmp 3]) (fn := Go.Proofs.Tryd.f50) (by kernel_rfl) ⟨Tys_ok, Go.Lf.FnsOk.look .nil, Go.Lf.IpsOk.look .nil⟩ (by kernel_rfl) (by kernel_rfl) (by kernel_rfl) (by kernel_rfl) (by kernel_rfl) (Nat.le_of_ble_eq_true rfl) (by simp [Go.Lf.Ty.top]) (by simp [Go.Lf.Ty.top]) fun z r h => (code_operand_eq z).trans h
noncomputable def octet_grownCtx : Go.Lf.Ctx := ⟨12, Tys, [], [4], [], [(4, (.rw 5 (.int .u8)))], []⟩
noncomputable def octet_grownCode : Go.Code := (Go.Proofs.Tryd.f98.body).getD .skip
def octet_grownAnn : Go.Lf.Ann := .no
noncomputable def octet_grown (a0 : List (Int)) (a1 : Int) : Option (List (Int)) :=
 ((Go.Lf.made0 (1 : Nat) (Go.IntKind.wrap .i64 ((((List.length a0) : Nat) : Int) + a1)))).bind fun r1 =>
 ((Go.Lf.app (1 : Nat) r1 a0)).bind fun r2 =>
 some r2
theorem octet_grown_eq (a0 : List (Int)) (a1 : Int) : Go.Lf.fnE octet_grownCtx octet_grownCode octet_grownAnn [.val (.sl (.int .u8)), .val (.int .i64)] [(.rw 5 (.int .u8))] [.tmp 4] (a0, a1) = octet_grown a0 a1 := by kernel_rfl
noncomputable def octet_grownEnt : Nat × Go.Lf.Entry := (98, ⟨[.val (.sl (.int .u8)), .val (.int .i64)], [(.rw 5 (.int .u8))], fun z => octet_grown z.1 z.2⟩)
theorem octet_grown_ok : Go.Lf.EntryOk Go.Proofs.Tryd.prog GG 98 octet_grownEnt.2 :=
  Go.Lf.fn_ok (c := octet_grownCtx) (code := octet_grownCode) (an := octet_grownAnn) (slots := [.tmp 4]) (fn := Go.Proofs.Tryd.f98) (by kernel_rfl) ⟨Tys_ok, Go.Lf.FnsOk.look .nil, Go.Lf.IpsOk.look .nil⟩ (by kernel_rfl) (by kernel_rfl) (by kernel_rfl) (by kernel_rfl) (by kernel_rfl) (Nat.le_of_ble_eq_true rfl) (by simp [Go.Lf.Ty.top]) (by simp [Go.Lf.Ty.top]) fun z r h => (octet_grown_eq z.1 z.2).trans h
noncomputable def octet_PutUintCtx : Go.Lf.Ctx := ⟨23, Tys, [octet_grownEnt], [4, 5, 10, 18], [], [(4, (.rw 5 (.int .u8))), (5, (.rw 5 (.int .u8))), (10, (.rw 5 (.int .u8))), (18, (.rw 5 (.int .u8)))], []⟩
noncomputable def octet_PutUintCode : Go.Code := (Go.Proofs.Tryd.f74.body).getD .skip
def octet_PutUintAnn : Go.Lf.Ann := (.seq .no (.seq .no (.seq (.loop ⟨[], [], [(1, (.int .u64)), (5, (.rw 5 (.int .u8)))], [], []⟩ (.one (.ext 0) ⟨[], [], [(1, (.int .u64)), (5, (.rw 5 (.int .u8)))], [], []⟩) .no) .no)))
noncomputable def octet_PutUint (a0 : List (Int)) (a1 : Int) : Option (List (Int)) :=
 ((Go.Fn.octet_grown a0 (10 : Int))).bind fun r1 =>
 (Go.Lf.loopC (σ := (Int) × (List (Int))) (κ := (Int) × (List (Int))) (fun z2 =>
     bif (decide ((127 : Int) < z2.1)) then ((Go.Lf.app (1 : Nat) z2.2 ((Go.Lf.bits .or .u8 (Go.IntKind.wrap .u8 z2.1) (128 : Int)) :: ([] : List (Int))))).bind fun r3 =>
     ((Go.Lf.nn (7 : Int) (Int.fdiv z2.1 ((2 : Int) ^ (Min.min (Int.toNat (7 : Int)) (64 : Nat)))))).bind fun r4 =>
     some (.inl (r4, r3))
     else some (.inr (z2.1, z2.2))) (a1, r1) : Option ((Int) × (List (Int)))).bind fun r5 =>
 ((Go.Lf.app (1 : Nat) r5.2 ((Go.IntKind.wrap .u8 r5.1) :: ([] : List (Int))))).bind fun r6 =>
 some r6
theorem octet_PutUint_eq (a0 : List (Int)) (a1 : Int) : Go.Lf.fnE octet_PutUintCtx octet_PutUintCode octet_PutUintAnn [.val (.sl (.int .u8)), .val (.int .u64)] [(.rw 5 (.int .u8))] [.tmp 4] (a0, a1) = octet_PutUint a0 a1 := by kernel_rfl
noncomputable def octet_PutUintEnt : Nat × Go.Lf.Entry := (74, ⟨[.val (.sl (.int .u8)), .val (.int .u64)], [(.rw 5 (.int .u8))], fun z => octet_PutUint z.1 z.2⟩)
theorem octet_PutUint_ok : Go.Lf.EntryOk Go.Proofs.Tryd.prog GG 74 octet_PutUintEnt.2 :=
  Go.Lf.fn_ok (c := octet_PutUintCtx) (code := octet_PutUintCode) (an := octet_PutUintAnn) (slots := [.tmp 4]) (fn := Go.Proofs.Tryd.f74) (by kernel_rfl) ⟨Tys_ok, Go.Lf.FnsOk.look (.con octet_grown_ok .nil), Go.Lf.IpsOk.look .nil⟩ (by kernel_rfl) (by kernel_rfl) (by kernel_rfl) (by kernel_rfl) (by kernel_rfl) (Nat.le_of_ble_eq_true rfl) (by simp [Go.Lf.Ty.top]) (by simp [Go.Lf.Ty.top]) fun z r h => (octet_PutUint_eq z.1 z.2).trans h
noncomputable def code_putCtx : Go.Lf.Ctx := ⟨28, Tys, [octet_PutUintEnt], [6, 9, 17], [], [(6, (.rw 5 (.int .u8))), (9, (.rw 5 (.int .u8))), (17, (.rw 5 (.int .u8)))], []⟩
noncomputable def code_putCode : Go.Code := (Go.Proofs.Tryd.f51.body).getD .skip
def code_putAnn : Go.Lf.Ann := .no
noncomputable def code_put (a0 : List (Int)) (a1 : Int) (a2 : Int) : Option (List (Int)) :=
 bif (decide (a2 < (15 : Int))) then ((Go.Lf.nn (4 : Int) (Go.IntKind.wrap .i64 (a1 * ((2 : Int) ^ (Min.min (Int.toNat (4 : Int)) (64 : Nat))))))).bind fun r1 =>
 ((Go.Lf.app (1 : Nat) a0 ((Go.IntKind.wrap .u8 (Go.Lf.bits .or .i64 r1 a2)) :: ([] : List (Int))))).bind fun r2 =>
 some r2
 else ((Go.Lf.nn (4 : Int) (Go.IntKind.wrap .i64 (a1 * ((2 : Int) ^ (Min.min (Int.toNat (4 : Int)) (64 : Nat))))))).bind fun r3 =>
 ((Go.Lf.app (1 : Nat) a0 ((Go.IntKind.wrap .u8 (Go.Lf.bits .or .i64 r3 (15 : Int))) :: ([] : List (Int))))).bind fun r4 =>
 ((Go.Fn.octet_PutUint r4 (Go.IntKind.wrap .u64 (Go.IntKind.wrap .i64 (a2 - (15 : Int)))))).bind fun r5 =>
 some r5
theorem code_put_eq (a0 : List (Int)) (a1 : Int) (a2 : Int) : Go.Lf.fnE code_putCtx code_putCode code_putAnn [.val (.rw 5 (.int .u8)), .val (.int .i64), .val (.int .i64)] [(.rw 5 (.int .u8))] [.tmp 6] (a0, a1, a2) = code_put a0 a1 a2 := by kernel_rfl
noncomputable def code_putEnt : Nat × Go.Lf.Entry := (51, ⟨[.val (.rw 5 (.int .u8)), .val (.int .i64), .val (.int .i64)], [(.rw 5 (.int .u8))], fun z => code_put z.1 z.2.1 z.2.2⟩)
theorem code_put_ok : Go.Lf.EntryOk Go.Proofs.Tryd.prog GG 51 code_putEnt.2 :=
  Go.Lf.fn_ok (c := code_putCtx) (code := code_putCode) (an := code_putAnn) (slots := [.tmp 6]) (fn := Go.Proofs.Tryd.f51) (by kernel_rfl) ⟨Tys_ok, Go.Lf.FnsOk.look (.con octet_PutUint_ok .nil), Go.Lf.IpsOk.look .nil⟩ (by kernel_rfl) (by kernel_rfl) (by kernel_rfl) (by kernel_rfl) (by kernel_rfl) (Nat.le_of_ble_eq_true rfl) (by simp [Go.Lf.Ty.top]) (by simp [Go.Lf.Ty.top]) fun z r h => (code_put_eq z.1 z.2.1 z.2.2).trans h
noncomputable def code_EncodeCtx : Go.Lf.Ctx := ⟨90, Tys, [code_operandEnt, code_putEnt], [2, 8, 9, 57, 65, 79, 86], [], [(2, (.rw 5 (.int .u8))), (8, (.rw 5 (.int .u8))), (9, (.rw 5 (.int .u8))), (57, (.rw 5 (.int .u8))), (65, (.rw 5 (.int .u8))), (79, (.rw 5 (.int .u8))), (86, (.rw 5 (.int .u8))), (4000087, (.dead 86 (.rw 5 (.int .u8))))], []⟩
noncomputable def code_EncodeCode : Go.Code := (Go.Proofs.Tryd.f26.body).getD .skip
def code_EncodeAnn : Go.Lf.Ann := (.seq .no (.seq .no (.seq .no (.seq (.seq .no (.loop ⟨[19, 0, 20], [], [(21, (.int .i64)), (5, (.int .i64))], [], []⟩ (.more (.ext 0) ⟨[0], [], [], [], []⟩ (.one .ret ⟨[], [], [(2, (.rw 5 (.int .u8))), (3, .str), (4, (.int .i64))], [], []⟩)) (.seq .no (.seq .no (.seq (.seq .no (.seq (.join (.one .nrm ⟨[19, 0, 20, 21], [], [(5, (.int .i64))], [], []⟩) .no) .no)) .no))))) (.seq .no (.seq (.seq .no (.loop ⟨[36, 37], [], [(38, (.int .i64)), (9, (.rw 5 (.int .u8))), (8, (.rw 5 (.int .u8)))], [], []⟩ (.more (.ext 2) ⟨[], [], [(9, (.rw 5 (.int .u8))), (8, (.rw 5 (.int .u8)))], [], []⟩ (.one .ret ⟨[], [], [(2, (.rw 5 (.int .u8))), (3, .str), (4, (.int .i64))], [], []⟩)) (.seq .no (.seq .no (.seq (.join (.more .ret ⟨[], [], [(2, (.rw 5 (.int .u8))), (3, .str), (4, (.int .i64))], [], []⟩ (.one .nrm ⟨[36, 37, 38], [], [(9, (.rw 5 (.int .u8))), (8, (.rw 5 (.int .u8)))], [], []⟩)) (.seq .no (.seq (.seq (.join (.one .nrm ⟨[36, 37, 38], [(11, 11, [], 0)], [(49, .bool), (9, (.rw 5 (.int .u8))), (8, (.rw 5 (.int .u8)))], [(11, 95, (.st (.pr (.int .i64) (.pr (.int .i64) (.pr .str (.pr (.sl (.int .i64)) .unit))))))], []⟩) .no) .no) (.seq .no (.seq .no (.seq .no (.seq (.join (.one .nrm ⟨[36, 37, 38], [(11, 11, [], 0)], [(8, (.rw 5 (.int .u8))), (9, (.rw 5 (.int .u8)))], [(11, 95, (.st (.pr (.int .i64) (.pr (.int .i64) (.pr .str (.pr (.sl (.int .i64)) .unit))))))], []⟩) .no) (.seq .no (.cnd (.seq .no (.loop ⟨[73, 36, 37, 38, 74], [], [(75, (.int .i64)), (8, (.rw 5 (.int .u8))), (9, (.rw 5 (.int .u8)))], [], []⟩ (.one (.ext 4) ⟨[36, 37, 38], [], [(9, (.rw 5 (.int .u8))), (8, (.rw 5 (.int .u8)))], [], []⟩) .no)) .no))))))))) .no))))) (.seq (.souph 5 87 8) .no)))))))
noncomputable def code_Encode (a0 : List ((Int) × ((Int) × ((List (UInt8)) × ((List (Int)) × (Unit)))))) : Option ((List (Int)) × ((List (UInt8)) × (Int))) :=
 bif (decide ((65536 : Int) < (((List.length a0) : Nat) : Int))) then some (([] : List (Int)), (([] : List (UInt8)), (2 : Int)))
 else (Go.Lf.loopC (σ := (Int) × (Int)) (κ := (Unit) ⊕ ((List (Int)) × ((List (UInt8)) × (Int)))) (fun z1 =>
     bif (decide (z1.1 < (((List.length a0) : Nat) : Int))) then ((Go.Lf.idx a0 z1.1)).bind fun r2 =>
     (bif (decide ((r2.1 : Int) = (1 : Int))) then some (Go.IntKind.wrap .i64 (z1.2 + (((List.length r2.2.2.1) : Nat) : Int)))
       else some z1.2).bind fun r3 =>
     bif (decide ((16384 : Int) < r3)) then some (.inr (.inr (([] : List (Int)), (([] : List (UInt8)), (2 : Int)))))
     else some (.inl ((Go.IntKind.wrap .i64 (z1.1 + (1 : Int))), r3))
     else some (.inr (.inl ()))) ((0 : Int), (0 : Int)) : Option ((Unit) ⊕ ((List (Int)) × ((List (UInt8)) × (Int))))).bind fun r4 =>
 Go.Lf.onSum r4 (fun a5 =>
 (Go.Lf.loopC (σ := (Int) × ((List (Int)) × (List (Int)))) (κ := ((List (Int)) × (List (Int))) ⊕ ((List (Int)) × ((List (UInt8)) × (Int)))) (fun z6 =>
     bif (decide (z6.1 < (((List.length a0) : Nat) : Int))) then (((Go.Lf.idx a0 z6.1)).bind fun r7 =>
       (bif (!(decide (r7.1 < (1 : Int)))) then some ((decide ((14 : Int) < r7.1)), (z6.2.1, (z6.2.2, r7)))
         else some (true, (z6.2.1, (z6.2.2, r7)))).bind fun r8 =>
       bif r8.1 then some (.inl (([] : List (Int)), (([] : List (UInt8)), (160 : Int))))
       else ((Go.Fn.code_operand r8.2.2.2)).bind fun r9 =>
       bif (!r9.2) then some (.inl (([] : List (Int)), (([] : List (UInt8)), (161 : Int))))
       else ((Go.Fn.code_put r8.2.2.1 r8.2.2.2.1 r9.1)).bind fun r10 =>
       (bif (decide ((r8.2.2.2.1 : Int) = (1 : Int))) then ((Go.Lf.app (1 : Nat) r8.2.1 (Go.Lf.bytesI r8.2.2.2.2.2.1))).bind fun r11 =>
         some (r10, (r11, r8.2.2.2))
         else some (r10, (r8.2.1, r8.2.2.2))).bind fun r12 =>
       bif (decide ((r12.2.2.1 : Int) = (12 : Int))) then (Go.Lf.loopC (σ := (Int) × ((List (Int)) × (List (Int)))) (κ := (List (Int)) × (List (Int))) (fun z13 =>
           bif (decide (z13.1 < (((List.length r12.2.2.2.2.2.1) : Nat) : Int))) then ((Go.Lf.idx r12.2.2.2.2.2.1 z13.1)).bind fun r14 =>
           ((Go.Lf.app (1 : Nat) z13.2.1 ((Go.IntKind.wrap .u8 r14) :: ([] : List (Int))))).bind fun r15 =>
           some (.inl ((Go.IntKind.wrap .i64 (z13.1 + (1 : Int))), (r15, z13.2.2)))
           else some (.inr (z13.2.2, z13.2.1))) ((0 : Int), (r12.1, r12.2.1)) : Option ((List (Int)) × (List (Int)))).bind fun r16 =>
       some (.inr (r16.1, r16.2))
       else some (.inr (r12.2.1, r12.1)) : Option (((List (Int)) × ((List (UInt8)) × (Int))) ⊕ ((List (Int)) × (List (Int))))).bind fun r17 =>
     Go.Lf.onSum r17 (fun a18 =>
     some (.inr (.inr (a18.1, (a18.2.1, a18.2.2))))) (fun b19 =>
     some (.inl ((Go.IntKind.wrap .i64 (z6.1 + (1 : Int))), (b19.1, b19.2))))
     else some (.inr (.inl (z6.2.1, z6.2.2)))) ((0 : Int), (([] : List (Int)), ([] : List (Int)))) : Option (((List (Int)) × (List (Int))) ⊕ ((List (Int)) × ((List (UInt8)) × (Int))))).bind fun r20 =>
 Go.Lf.onSum r20 (fun a21 =>
 ((Go.Fn.code_put a21.2 (15 : Int) (0 : Int))).bind fun r22 =>
 some (r22, ((Go.Lf.bytesU a21.1), (0 : Int)))) (fun b23 =>
 some (b23.1, (b23.2.1, b23.2.2)))) (fun b24 =>
 some (b24.1, (b24.2.1, b24.2.2)))
theorem code_Encode_eq (a0 : List ((Int) × ((Int) × ((List (UInt8)) × ((List (Int)) × (Unit)))))) : Go.Lf.fnE code_EncodeCtx code_EncodeCode code_EncodeAnn [.val (.sl (.st (.pr (.int .i64) (.pr (.int .i64) (.pr .str (.pr (.sl (.int .i64)) .unit))))))] [(.sl (.int .u8)), .str, (.int .i64)] [.tmp 2, .tmp 3, .tmp 4] (a0) = code_Encode a0 := by kernel_rfl
noncomputable def code_EncodeEnt : Nat × Go.Lf.Entry := (26, ⟨[.val (.sl (.st (.pr (.int .i64) (.pr (.int .i64) (.pr .str (.pr (.sl (.int .i64)) .unit))))))], [(.sl (.int .u8)), .str, (.int .i64)], fun z => code_Encode z⟩)
theorem code_Encode_ok : Go.Lf.EntryOk Go.Proofs.Tryd.prog GG 26 code_EncodeEnt.2 :=
  Go.Lf.fn_ok (c := code_EncodeCtx) (code := code_EncodeCode) (an := code_EncodeAnn) (slots := [.tmp 2, .tmp 3, .tmp 4]) (fn := Go.Proofs.Tryd.f26) (by kernel_rfl) ⟨Tys_ok, Go.Lf.FnsOk.look (.con code_operand_ok (.con code_put_ok .nil)), Go.Lf.IpsOk.look .nil⟩ (by kernel_rfl) (by kernel_rfl) (by kernel_rfl) (by kernel_rfl) (by kernel_rfl) (Nat.le_of_ble_eq_true rfl) (by simp [Go.Lf.Ty.top]) (by simp [Go.Lf.Ty.top]) fun z r h => (code_Encode_eq z).trans h
noncomputable def foliolaw16_awakeCtx : Go.Lf.Ctx := ⟨72, Tys, [code_EncodeEnt, code_NextEnt, code_ListEnt, foliolaw16_linesEnt], [], [], [], []⟩
noncomputable def foliolaw16_awakeCode : Go.Code := (Go.Proofs.Tryd.f29.body).getD .skip
def foliolaw16_awakeAnn : Go.Lf.Ann := (.seq .no (.seq .no (.seq .no (.seq .no (.seq .no (.seq (.join (.one .nrm ⟨[], [], [(0, .bool)], [], []⟩) .no) .no))))))
noncomputable def foliolaw16_awake  : Option (Bool) :=
 ((Go.Fn.code_Encode (((8 : Int), ((-(1 : Int)), (([] : List (UInt8)), (([] : List (Int)), ())))) :: (((1 : Int), ((0 : Int), (((97 : UInt8) :: ((98 : UInt8) :: ([] : List (UInt8)))), (([] : List (Int)), ())))) :: (((9 : Int), ((0 : Int), (([] : List (UInt8)), (([] : List (Int)), ())))) :: ([] : List ((Int) × ((Int) × ((List (UInt8)) × ((List (Int)) × (Unit))))))))))).bind fun r1 =>
 ((Go.Fn.code_Next ((47 : Int) :: ((5 : Int) :: ([] : List (Int)))) (0 : Int))).bind fun r2 =>
 ((Go.Fn.code_List ((128 : Int) :: ((17 : Int) :: ((144 : Int) :: ((240 : Int) :: ([] : List (Int)))))))).bind fun r3 =>
 (bif (decide ((r1.2.2 : Int) = (0 : Int))) then bif (decide (((Go.Lf.bytesU r1.1) : List (UInt8)) = (Go.Lf.bytesU ((128 : Int) :: ((17 : Int) :: ((144 : Int) :: ((240 : Int) :: ([] : List (Int))))))))) then bif (decide ((r1.2.1 : List (UInt8)) = ((97 : UInt8) :: ((98 : UInt8) :: ([] : List (UInt8)))))) then bif (decide ((r2.2 : Int) = (0 : Int))) then bif (decide ((r2.1.2.2.1 : Int) = (2 : Int))) then bif (decide ((r2.1.2.2.2.1 : Int) = (20 : Int))) then bif (decide ((r2.1.2.1 : Int) = (2 : Int))) then bif (decide ((r3.2.2 : Int) = (0 : Int))) then ((Go.Fn.foliolaw16_lines r3.1 (((48 : UInt8) :: ((32 : UInt8) :: ((112 : UInt8) :: ((97 : UInt8) :: ((114 : UInt8) :: ((97 : UInt8) :: ((32 : UInt8) :: ((45 : UInt8) :: ((49 : UInt8) :: ([] : List (UInt8))))))))))) :: (((49 : UInt8) :: ((32 : UInt8) :: ((116 : UInt8) :: ((101 : UInt8) :: ((120 : UInt8) :: ((116 : UInt8) :: ((32 : UInt8) :: ((50 : UInt8) :: ([] : List (UInt8)))))))))) :: (((50 : UInt8) :: ((32 : UInt8) :: ((100 : UInt8) :: ((111 : UInt8) :: ((110 : UInt8) :: ((101 : UInt8) :: ([] : List (UInt8)))))))) :: (((51 : UInt8) :: ((32 : UInt8) :: ((104 : UInt8) :: ((97 : UInt8) :: ((108 : UInt8) :: ((116 : UInt8) :: ([] : List (UInt8)))))))) :: ([] : List (List (UInt8))))))))).bind fun r4 =>
   some r4
   else some false
   else some false
   else some false
   else some false
   else some false
   else some false
   else some false
   else some false).bind fun r5 =>
 some r5
theorem foliolaw16_awake_eq  : Go.Lf.fnE foliolaw16_awakeCtx foliolaw16_awakeCode foliolaw16_awakeAnn [] [.bool] [.tmp 0] () = foliolaw16_awake  := by kernel_rfl
noncomputable def foliolaw16_awakeEnt : Nat × Go.Lf.Entry := (29, ⟨[], [.bool], fun _ => foliolaw16_awake ⟩)
theorem foliolaw16_awake_ok : Go.Lf.EntryOk Go.Proofs.Tryd.prog GG 29 foliolaw16_awakeEnt.2 :=
  Go.Lf.fn_ok (c := foliolaw16_awakeCtx) (code := foliolaw16_awakeCode) (an := foliolaw16_awakeAnn) (slots := [.tmp 0]) (fn := Go.Proofs.Tryd.f29) (by kernel_rfl) ⟨Tys_ok, Go.Lf.FnsOk.look (.con code_Encode_ok (.con code_Next_ok (.con code_List_ok (.con foliolaw16_lines_ok .nil)))), Go.Lf.IpsOk.look .nil⟩ (by kernel_rfl) (by kernel_rfl) (by kernel_rfl) (by kernel_rfl) (by kernel_rfl) (Nat.le_of_ble_eq_true rfl) (by simp [Go.Lf.Ty.top]) (by simp [Go.Lf.Ty.top]) fun z r h => (foliolaw16_awake_eq ).trans h
noncomputable def code_madeCtx : Go.Lf.Ctx := ⟨104, Tys, [code_putEnt, code_numberedEnt, strconv_AtoiEnt], [4, 6, 11, 36, 68, 74], [], [(4, (.rw 5 (.int .u8))), (6, (.rw 3 (.int .i64))), (11, (.rw 5 (.int .u8))), (36, (.rw 3 (.int .i64))), (68, (.rw 5 (.int .u8))), (74, (.rw 5 (.int .u8)))], []⟩
noncomputable def code_madeCode : Go.Code := (Go.Proofs.Tryd.f85.body).getD .skip
def code_madeAnn : Go.Lf.Ann := (.seq .no (.seq .no (.seq (.seq .no (.loop ⟨[15, 0, 16], [], [(17, (.int .i64)), (6, (.rw 3 (.int .i64)))], [], []⟩ (.more (.ext 0) ⟨[0], [], [(6, (.rw 3 (.int .i64)))], [], []⟩ (.one .ret ⟨[], [], [(4, (.rw 5 (.int .u8))), (5, .bool)], [], []⟩)) (.seq .no (.seq .no (.seq (.seq .no (.seq .no (.seq (.seq (.join (.one .nrm ⟨[15, 0, 16, 17, 9], [], [(35, .bool), (6, (.rw 3 (.int .i64)))], [], []⟩) .no) .no) .no))) .no))))) (.seq (.seq .no (.cnd (.seq (.seq (.join (.one .nrm ⟨[0], [], [(50, .bool), (6, (.rw 3 (.int .i64)))], [], []⟩) .no) .no) (.seq .no (.seq (.seq .no (.loop ⟨[56, 57], [], [(58, (.int .i64)), (11, (.rw 5 (.int .u8)))], [], []⟩ (.more (.ext 2) ⟨[], [], [(11, (.rw 5 (.int .u8)))], [], []⟩ (.one .ret ⟨[], [], [(4, (.rw 5 (.int .u8))), (5, .bool)], [], []⟩)) (.seq .no (.seq .no (.seq (.seq .no (.seq (.seq (.join (.one .nrm ⟨[56, 57, 58, 13], [], [(67, .bool), (11, (.rw 5 (.int .u8)))], [], []⟩) .no) .no) .no)) .no))))) .no))) .no)) (.seq .no (.seq .no (.seq .no (.seq (.join (.one .nrm ⟨[0], [], [(14, (.int .i64))], [], []⟩) .no) .no))))))))
noncomputable def code_made (a0 : Int) (a1 : List (List (UInt8))) : Option ((List (Int)) × (Bool)) :=
 (Go.Lf.loopC (σ := (Int) × (List (Int))) (κ := (List (Int)) ⊕ ((List (Int)) × (Bool))) (fun z1 =>
     bif (decide (z1.1 < (((List.length a1) : Nat) : Int))) then ((Go.Lf.idx a1 z1.1)).bind fun r2 =>
     ((Go.Fn.strconv_Atoi r2)).bind fun r3 =>
     (bif (!(Option.isSome r3.2)) then bif (!(decide (r3.1 < (-(1 : Int))))) then some ((decide ((2147483647 : Int) < r3.1)), z1.2)
       else some (true, z1.2)
       else some (true, z1.2)).bind fun r4 =>
     bif r4.1 then some (.inr (.inr (([] : List (Int)), false)))
     else ((Go.Lf.app (8 : Nat) r4.2 (r3.1 :: ([] : List (Int))))).bind fun r5 =>
     some (.inl ((Go.IntKind.wrap .i64 (z1.1 + (1 : Int))), r5))
     else some (.inr (.inl z1.2))) ((0 : Int), ([] : List (Int))) : Option ((List (Int)) ⊕ ((List (Int)) × (Bool)))).bind fun r6 =>
 Go.Lf.onSum r6 (fun a7 =>
 bif (decide ((a0 : Int) = (12 : Int))) then (bif (!(decide ((((List.length a7) : Nat) : Int) < (1 : Int)))) then some ((decide ((16 : Int) < (((List.length a7) : Nat) : Int))), a7)
   else some (true, a7)).bind fun r8 =>
 bif r8.1 then some (([] : List (Int)), false)
 else ((Go.Fn.code_put ([] : List (Int)) a0 (Go.IntKind.wrap .i64 ((((List.length r8.2) : Nat) : Int) - (1 : Int))))).bind fun r9 =>
 (Go.Lf.loopC (σ := (Int) × (List (Int))) (κ := (List (Int)) ⊕ ((List (Int)) × (Bool))) (fun z10 =>
     bif (decide (z10.1 < (((List.length r8.2) : Nat) : Int))) then ((Go.Lf.idx r8.2 z10.1)).bind fun r11 =>
     (bif (!(decide (r11 < (0 : Int)))) then some ((decide ((255 : Int) < r11)), z10.2)
       else some (true, z10.2)).bind fun r12 =>
     bif r12.1 then some (.inr (.inr (([] : List (Int)), false)))
     else ((Go.Lf.app (1 : Nat) r12.2 ((Go.IntKind.wrap .u8 r11) :: ([] : List (Int))))).bind fun r13 =>
     some (.inl ((Go.IntKind.wrap .i64 (z10.1 + (1 : Int))), r13))
     else some (.inr (.inl z10.2))) ((0 : Int), r9) : Option ((List (Int)) ⊕ ((List (Int)) × (Bool)))).bind fun r14 =>
 Go.Lf.onSum r14 (fun a15 =>
 some (a15, true)) (fun b16 =>
 some (b16.1, b16.2))
 else ((Go.Fn.code_numbered a0)).bind fun r17 =>
 bif (!r17) then ((Go.Fn.code_put ([] : List (Int)) a0 (0 : Int))).bind fun r18 =>
 some (r18, (decide (((((List.length a7) : Nat) : Int) : Int) = (0 : Int))))
 else bif (decide (((((List.length a7) : Nat) : Int) : Int) ≠ (1 : Int))) then some (([] : List (Int)), false)
 else ((Go.Lf.idx a7 (0 : Int))).bind fun r19 =>
 (bif (decide ((a0 : Int) = (1 : Int))) then some (Go.IntKind.wrap .i64 (r19 - (1 : Int)))
   else bif (decide ((a0 : Int) = (8 : Int))) then some (Go.IntKind.wrap .i64 (r19 + (1 : Int)))
   else some r19).bind fun r20 =>
 ((Go.Fn.code_put ([] : List (Int)) a0 (Max.max r20 (0 : Int)))).bind fun r21 =>
 some (r21, (decide ((0 : Int) ≤ r20)))) (fun b22 =>
 some (b22.1, b22.2))
theorem code_made_eq (a0 : Int) (a1 : List (List (UInt8))) : Go.Lf.fnE code_madeCtx code_madeCode code_madeAnn [.val (.int .i64), .val (.sl .str)] [(.rw 5 (.int .u8)), .bool] [.tmp 4, .tmp 5] (a0, a1) = code_made a0 a1 := by kernel_rfl
noncomputable def code_madeEnt : Nat × Go.Lf.Entry := (85, ⟨[.val (.int .i64), .val (.sl .str)], [(.rw 5 (.int .u8)), .bool], fun z => code_made z.1 z.2⟩)
theorem code_made_ok : Go.Lf.EntryOk Go.Proofs.Tryd.prog GG 85 code_madeEnt.2 :=
  Go.Lf.fn_ok (c := code_madeCtx) (code := code_madeCode) (an := code_madeAnn) (slots := [.tmp 4, .tmp 5]) (fn := Go.Proofs.Tryd.f85) (by kernel_rfl) ⟨Tys_ok, Go.Lf.FnsOk.look (.con code_put_ok (.con code_numbered_ok (.con strconv_Atoi_ok .nil))), Go.Lf.IpsOk.look .nil⟩ (by kernel_rfl) (by kernel_rfl) (by kernel_rfl) (by kernel_rfl) (by kernel_rfl) (Nat.le_of_ble_eq_true rfl) (by simp [Go.Lf.Ty.top]) (by simp [Go.Lf.Ty.top]) fun z r h => (code_made_eq z.1 z.2).trans h
noncomputable def code_readCtx : Go.Lf.Ctx := ⟨54, Tys, [code_NextEnt, code_lineEnt, code_nameEnt, strings_SplitEnt, code_madeEnt], [4, 7, 9, 28, 33, 37, 49], [], [(4, (.rw 5 (.int .u8))), (7, (.on (.int .u8))), (9, (.rw 5 (.int .u8))), (33, (.rw 5 (.int .u8))), (37, (.rw 5 (.int .u8))), (49, (.rw 5 (.int .u8)))], []⟩
noncomputable def code_readCode : Go.Code := (Go.Proofs.Tryd.f64.body).getD .skip
def code_readAnn : Go.Lf.Ann := (.seq .no (.seq .no (.seq .no (.seq .no (.seq (.seq .no (.loop ⟨[6, 0, 1], [], [(8, (.int .i64)), (7, (.on (.int .u8)))], [], []⟩ (.more (.ext 0) ⟨[0, 1], [], [(7, (.on (.int .u8)))], [], []⟩ (.one .ret ⟨[], [], [(4, (.rw 5 (.int .u8))), (5, .bool)], [], []⟩)) (.seq .no (.seq (.join (.more .nrm ⟨[6, 0, 1, 8], [], [(7, (.on (.int .u8)))], [], []⟩ (.one .ret ⟨[], [], [(4, (.rw 5 (.int .u8))), (5, .bool)], [], []⟩)) (.seq (.seq (.draw 6) .no) .no)) .no)))) .no)))))
noncomputable def code_read (a0 : List (UInt8)) (a1 : Int) : Option ((List (Int)) × (Bool)) :=
 ((Go.Fn.strings_Split a0 ((32 : UInt8) :: ([] : List (UInt8))))).bind fun r1 =>
 bif (decide ((((List.length r1) : Nat) : Int) < (2 : Int))) then some (([] : List (Int)), false)
 else (Go.Lf.loopC (σ := (Int) × (List (Int))) (κ := (List (Int)) ⊕ ((List (Int)) × (Bool))) (fun z2 =>
     bif (decide (z2.1 ≤ (15 : Int))) then (((Go.Fn.code_name z2.1)).bind fun r3 =>
       ((Go.Lf.idx r1 (1 : Int))).bind fun r4 =>
       bif (decide ((r3 : List (UInt8)) ≠ r4)) then some (.inl z2.2)
       else ((Go.Lf.sub r1 (2 : Int) (((List.length r1) : Nat) : Int))).bind fun r5 =>
       ((Go.Fn.code_made z2.1 r5)).bind fun r6 =>
       bif (!r6.2) then some (.inr (([] : List (Int)), false))
       else ((Go.Lf.neL r6.1)).bind fun r7 =>
       some (.inl r7) : Option ((List (Int)) ⊕ ((List (Int)) × (Bool)))).bind fun r8 =>
     Go.Lf.onSum r8 (fun a9 =>
     some (.inl ((Go.IntKind.wrap .i64 (z2.1 + (1 : Int))), a9))) (fun b10 =>
     some (.inr (.inr (b10.1, b10.2))))
     else some (.inr (.inl z2.2))) ((1 : Int), ([] : List (Int))) : Option ((List (Int)) ⊕ ((List (Int)) × (Bool)))).bind fun r11 =>
 Go.Lf.onSum r11 (fun a12 =>
 bif (List.isEmpty a12) then some (([] : List (Int)), false)
 else ((Go.Fn.code_Next a12 (0 : Int))).bind fun r13 =>
 bif (decide ((r13.2 : Int) ≠ (0 : Int))) then some (([] : List (Int)), false)
 else ((Go.Fn.code_line (a1, r13.1.2))).bind fun r14 =>
 some (a12, (decide ((r14 : List (UInt8)) = a0)))) (fun b15 =>
 some (b15.1, b15.2))
theorem code_read_eq (a0 : List (UInt8)) (a1 : Int) : Go.Lf.fnE code_readCtx code_readCode code_readAnn [.val .str, .val (.int .i64)] [(.sl (.int .u8)), .bool] [.tmp 4, .tmp 5] (a0, a1) = code_read a0 a1 := by kernel_rfl
noncomputable def code_readEnt : Nat × Go.Lf.Entry := (64, ⟨[.val .str, .val (.int .i64)], [(.sl (.int .u8)), .bool], fun z => code_read z.1 z.2⟩)
theorem code_read_ok : Go.Lf.EntryOk Go.Proofs.Tryd.prog GG 64 code_readEnt.2 :=
  Go.Lf.fn_ok (c := code_readCtx) (code := code_readCode) (an := code_readAnn) (slots := [.tmp 4, .tmp 5]) (fn := Go.Proofs.Tryd.f64) (by kernel_rfl) ⟨Tys_ok, Go.Lf.FnsOk.look (.con code_Next_ok (.con code_line_ok (.con code_name_ok (.con strings_Split_ok (.con code_made_ok .nil))))), Go.Lf.IpsOk.look .nil⟩ (by kernel_rfl) (by kernel_rfl) (by kernel_rfl) (by kernel_rfl) (by kernel_rfl) (Nat.le_of_ble_eq_true rfl) (by simp [Go.Lf.Ty.top]) (by simp [Go.Lf.Ty.top]) fun z r h => (code_read_eq z.1 z.2).trans h
noncomputable def code_ReadCtx : Go.Lf.Ctx := ⟨49, Tys, [code_readEnt], [2, 5, 40, 48], [], [(2, (.rw 5 (.int .u8))), (5, (.rw 5 (.int .u8))), (40, (.rw 5 (.int .u8))), (48, (.rw 5 (.int .u8)))], []⟩
noncomputable def code_ReadCode : Go.Code := (Go.Proofs.Tryd.f42.body).getD .skip
def code_ReadAnn : Go.Lf.Ann := (.seq .no (.seq .no (.seq .no (.seq .no (.seq (.seq .no (.loop ⟨[0, 14], [], [(15, (.int .i64)), (5, (.rw 5 (.int .u8))), (6, (.int .i64))], [], []⟩ (.more (.ext 0) ⟨[0], [], [(5, (.rw 5 (.int .u8))), (6, (.int .i64))], [], []⟩ (.one .ret ⟨[], [], [(2, (.rw 5 (.int .u8))), (3, (.int .i64)), (4, (.int .i64))], [], []⟩)) (.seq .no (.seq .no (.seq (.seq .no (.seq .no (.seq (.seq (.join (.one .nrm ⟨[7, 0, 14, 15, 8, 6], [], [(33, .bool), (5, (.rw 5 (.int .u8)))], [], []⟩) .no) .no) (.seq (.join (.one .nrm ⟨[0, 14, 15, 8], [], [(6, (.int .i64)), (5, (.rw 5 (.int .u8)))], [], []⟩) .no) .no)))) .no))))) .no)))))
noncomputable def code_Read (a0 : List (List (UInt8))) : Option ((List (Int)) × ((Int) × (Int))) :=
 bif (decide ((65537 : Int) < (((List.length a0) : Nat) : Int))) then some (([] : List (Int)), ((0 : Int), (2 : Int)))
 else (Go.Lf.loopC (σ := (Int) × ((List (Int)) × (Int))) (κ := ((List (Int)) × (Int)) ⊕ ((List (Int)) × ((Int) × (Int)))) (fun z1 =>
     bif (decide (z1.1 < (((List.length a0) : Nat) : Int))) then ((Go.Lf.idx a0 z1.1)).bind fun r2 =>
     ((Go.Fn.code_read r2 (((List.length z1.2.1) : Nat) : Int))).bind fun r3 =>
     (bif (!(!r3.2)) then some ((decide ((0 : Int) < z1.2.2)), z1.2.1)
       else some (true, z1.2.1)).bind fun r4 =>
     bif r4.1 then some (.inr (.inr (([] : List (Int)), (z1.1, (163 : Int)))))
     else (((Go.Lf.idx r3.1 (0 : Int))).bind fun r5 =>
       ((Go.Lf.nn (4 : Int) (Int.fdiv r5 ((2 : Int) ^ (Min.min (Int.toNat (4 : Int)) (8 : Nat)))))).bind fun r6 =>
       bif (decide ((r6 : Int) = (15 : Int))) then some ((1 : Int), r4.2)
       else some (z1.2.2, r4.2)).bind fun r7 =>
     ((Go.Lf.app (1 : Nat) r7.2 r3.1)).bind fun r8 =>
     some (.inl ((Go.IntKind.wrap .i64 (z1.1 + (1 : Int))), (r8, r7.1)))
     else some (.inr (.inl (z1.2.1, z1.2.2)))) ((0 : Int), (([] : List (Int)), (0 : Int))) : Option (((List (Int)) × (Int)) ⊕ ((List (Int)) × ((Int) × (Int))))).bind fun r9 =>
 Go.Lf.onSum r9 (fun a10 =>
 bif (decide ((a10.2 : Int) = (0 : Int))) then some (([] : List (Int)), ((((List.length a0) : Nat) : Int), (162 : Int)))
 else some (a10.1, ((0 : Int), (0 : Int)))) (fun b11 =>
 some (b11.1, (b11.2.1, b11.2.2)))
theorem code_Read_eq (a0 : List (List (UInt8))) : Go.Lf.fnE code_ReadCtx code_ReadCode code_ReadAnn [.val (.sl .str)] [(.rw 5 (.int .u8)), (.int .i64), (.int .i64)] [.tmp 2, .tmp 3, .tmp 4] (a0) = code_Read a0 := by kernel_rfl
noncomputable def code_ReadEnt : Nat × Go.Lf.Entry := (42, ⟨[.val (.sl .str)], [(.rw 5 (.int .u8)), (.int .i64), (.int .i64)], fun z => code_Read z⟩)
theorem code_Read_ok : Go.Lf.EntryOk Go.Proofs.Tryd.prog GG 42 code_ReadEnt.2 :=
  Go.Lf.fn_ok (c := code_ReadCtx) (code := code_ReadCode) (an := code_ReadAnn) (slots := [.tmp 2, .tmp 3, .tmp 4]) (fn := Go.Proofs.Tryd.f42) (by kernel_rfl) ⟨Tys_ok, Go.Lf.FnsOk.look (.con code_read_ok .nil), Go.Lf.IpsOk.look .nil⟩ (by kernel_rfl) (by kernel_rfl) (by kernel_rfl) (by kernel_rfl) (by kernel_rfl) (Nat.le_of_ble_eq_true rfl) (by simp [Go.Lf.Ty.top]) (by simp [Go.Lf.Ty.top]) fun z r h => (code_Read_eq z).trans h
noncomputable def folioref16_wordsCtx : Go.Lf.Ctx := ⟨32, Tys, [], [2, 3, 22, 31], [], [(2, (.rw 9 .str)), (3, (.rw 9 .str)), (22, (.rw 9 .str)), (31, (.rw 9 .str))], []⟩
noncomputable def folioref16_wordsCode : Go.Code := (Go.Proofs.Tryd.f86.body).getD .skip
def folioref16_wordsAnn : Go.Lf.Ann := (.seq .no (.seq .no (.seq .no (.seq (.seq .no (.loop ⟨[0], [], [(5, (.int .i64)), (4, (.int .i64)), (3, (.rw 9 .str))], [], []⟩ (.one (.ext 0) ⟨[], [], [(3, (.rw 9 .str))], [], []⟩) (.seq .no (.seq (.join (.one .nrm ⟨[0, 5], [], [(4, (.int .i64)), (3, (.rw 9 .str))], [], []⟩) (.seq (.join (.one .nrm ⟨[0, 5, 4], [], [(21, .bool), (3, (.rw 9 .str))], [], []⟩) .no) .no)) .no)))) .no))))
noncomputable def folioref16_words (a0 : List (UInt8)) : Option (List (List (UInt8))) :=
 (Go.Lf.loopC (σ := (Int) × ((Int) × (List (List (UInt8))))) (κ := List (List (UInt8))) (fun z1 =>
     bif (decide (z1.1 ≤ (((List.length a0) : Nat) : Int))) then ((bif (!(decide ((z1.1 : Int) = (((List.length a0) : Nat) : Int)))) then ((Go.Lf.idx a0 z1.1)).bind fun r2 =>
         some ((decide (((((UInt8.toNat r2) : Nat) : Int) : Int) = (32 : Int))), z1.2.2)
         else some (true, z1.2.2)).bind fun r3 =>
       bif r3.1 then ((Go.Lf.sub a0 z1.2.1 z1.1)).bind fun r4 =>
       ((Go.Lf.app (16 : Nat) r3.2 (r4 :: ([] : List (List (UInt8)))))).bind fun r5 =>
       some ((Go.IntKind.wrap .i64 (z1.1 + (1 : Int))), r5)
       else some (z1.2.1, r3.2)).bind fun r6 =>
     some (.inl ((Go.IntKind.wrap .i64 (z1.1 + (1 : Int))), (r6.1, r6.2)))
     else some (.inr z1.2.2)) ((0 : Int), ((0 : Int), ([] : List (List (UInt8))))) : Option (List (List (UInt8)))).bind fun r7 =>
 some r7
theorem folioref16_words_eq (a0 : List (UInt8)) : Go.Lf.fnE folioref16_wordsCtx folioref16_wordsCode folioref16_wordsAnn [.val .str] [(.rw 9 .str)] [.tmp 2] (a0) = folioref16_words a0 := by kernel_rfl
noncomputable def folioref16_wordsEnt : Nat × Go.Lf.Entry := (86, ⟨[.val .str], [(.rw 9 .str)], fun z => folioref16_words z⟩)
theorem folioref16_words_ok : Go.Lf.EntryOk Go.Proofs.Tryd.prog GG 86 folioref16_wordsEnt.2 :=
  Go.Lf.fn_ok (c := folioref16_wordsCtx) (code := folioref16_wordsCode) (an := folioref16_wordsAnn) (slots := [.tmp 2]) (fn := Go.Proofs.Tryd.f86) (by kernel_rfl) ⟨Tys_ok, Go.Lf.FnsOk.look .nil, Go.Lf.IpsOk.look .nil⟩ (by kernel_rfl) (by kernel_rfl) (by kernel_rfl) (by kernel_rfl) (by kernel_rfl) (Nat.le_of_ble_eq_true rfl) (by simp [Go.Lf.Ty.top]) (by simp [Go.Lf.Ty.top]) fun z r h => (folioref16_words_eq z).trans h
noncomputable def folioref16_numberCtx : Go.Lf.Ctx := ⟨51, Tys, [strconv_ItoaEnt], [], [], [], []⟩
noncomputable def folioref16_numberCode : Go.Code := (Go.Proofs.Tryd.f87.body).getD .skip
def folioref16_numberAnn : Go.Lf.Ann := (.seq .no (.seq (.join (.one .nrm ⟨[0], [], [(4, (.int .i64)), (5, .bool)], [], []⟩) (.draw 10)) (.seq (.seq .no (.loop ⟨[0, 5], [], [(6, (.int .i64)), (4, (.int .i64))], [], []⟩ (.one (.ext 0) ⟨[0, 5], [], [(4, (.int .i64))], [], []⟩) (.seq .no (.seq (.join (.one .nrm ⟨[0, 5, 6], [], [(4, (.int .i64))], [], []⟩) (.seq (.join (.one .nrm ⟨[0, 5, 6, 4], [], [(34, .bool)], [], []⟩) .no) .no)) .no)))) (.seq (.join (.one .nrm ⟨[0], [], [(4, (.int .i64))], [], []⟩) .no) .no))))
noncomputable def folioref16_number (a0 : List (UInt8)) : Option ((Int) × (Bool)) :=
 (bif (decide ((0 : Int) < (((List.length a0) : Nat) : Int))) then ((Go.Lf.idx a0 (0 : Int))).bind fun r1 =>
   some ((0 : Int), (decide (((((UInt8.toNat r1) : Nat) : Int) : Int) = (45 : Int))))
   else some ((0 : Int), false)).bind fun r2 =>
 (Go.Lf.loopC (σ := (Int) × (Int)) (κ := Int) (fun z3 =>
     bif (decide (z3.1 < (((List.length a0) : Nat) : Int))) then ((((Go.Lf.idx a0 z3.1)).bind fun r4 =>
         bif (decide ((48 : Int) ≤ (((UInt8.toNat r4) : Nat) : Int))) then ((Go.Lf.idx a0 z3.1)).bind fun r5 =>
         bif (decide ((((UInt8.toNat r5) : Nat) : Int) ≤ (57 : Int))) then some (decide (z3.2 ≤ (2147483647 : Int)))
         else some false
         else some false).bind fun r6 =>
       bif r6 then ((Go.Lf.idx a0 z3.1)).bind fun r7 =>
       some (Go.IntKind.wrap .i64 ((Go.IntKind.wrap .i64 ((10 : Int) * z3.2)) + (Go.IntKind.wrap .i64 (Go.IntKind.wrap .u8 ((((UInt8.toNat r7) : Nat) : Int) - (48 : Int))))))
       else some z3.2).bind fun r8 =>
     some (.inl ((Go.IntKind.wrap .i64 (z3.1 + (1 : Int))), r8))
     else some (.inr z3.2)) ((0 : Int), r2.1) : Option (Int)).bind fun r9 =>
 (bif r2.2 then some (Go.IntKind.wrap .i64 ((0 : Int) - r9))
   else some r9).bind fun r10 =>
 ((Go.Fn.strconv_Itoa r10)).bind fun r11 =>
 some (r10, (decide ((r11 : List (UInt8)) = a0)))
theorem folioref16_number_eq (a0 : List (UInt8)) : Go.Lf.fnE folioref16_numberCtx folioref16_numberCode folioref16_numberAnn [.val .str] [(.int .i64), .bool] [.tmp 2, .tmp 3] (a0) = folioref16_number a0 := by kernel_rfl
noncomputable def folioref16_numberEnt : Nat × Go.Lf.Entry := (87, ⟨[.val .str], [(.int .i64), .bool], fun z => folioref16_number z⟩)
theorem folioref16_number_ok : Go.Lf.EntryOk Go.Proofs.Tryd.prog GG 87 folioref16_numberEnt.2 :=
  Go.Lf.fn_ok (c := folioref16_numberCtx) (code := folioref16_numberCode) (an := folioref16_numberAnn) (slots := [.tmp 2, .tmp 3]) (fn := Go.Proofs.Tryd.f87) (by kernel_rfl) ⟨Tys_ok, Go.Lf.FnsOk.look (.con strconv_Itoa_ok .nil), Go.Lf.IpsOk.look .nil⟩ (by kernel_rfl) (by kernel_rfl) (by kernel_rfl) (by kernel_rfl) (by kernel_rfl) (Nat.le_of_ble_eq_true rfl) (by simp [Go.Lf.Ty.top]) (by simp [Go.Lf.Ty.top]) fun z r h => (folioref16_number_eq z).trans h
noncomputable def folioref16_UintCtx : Go.Lf.Ctx := ⟨20, Tys, [], [2, 3, 6, 15], [], [(2, (.rw 5 (.int .u8))), (3, (.rw 5 (.int .u8))), (6, (.rw 5 (.int .u8))), (15, (.rw 5 (.int .u8)))], []⟩
noncomputable def folioref16_UintCode : Go.Code := (Go.Proofs.Tryd.f75.body).getD .skip
def folioref16_UintAnn : Go.Lf.Ann := (.seq .no (.seq .no (.seq (.loop ⟨[], [], [(0, (.int .u64)), (3, (.rw 5 (.int .u8)))], [], []⟩ (.one (.ext 0) ⟨[], [], [(0, (.int .u64)), (3, (.rw 5 (.int .u8)))], [], []⟩) .no) .no)))
noncomputable def folioref16_Uint (a0 : Int) : Option (List (Int)) :=
 (Go.Lf.loopC (σ := (Int) × (List (Int))) (κ := (Int) × (List (Int))) (fun z1 =>
     bif (decide ((128 : Int) ≤ z1.1)) then ((Go.Lf.nz (128 : Int) (Int.tmod z1.1 (128 : Int)))).bind fun r2 =>
     ((Go.Lf.app (1 : Nat) z1.2 ((Go.IntKind.wrap .u8 (Go.IntKind.wrap .u64 (r2 + (128 : Int)))) :: ([] : List (Int))))).bind fun r3 =>
     ((Go.Lf.nz (128 : Int) (Go.IntKind.wrap .u64 (Int.tdiv z1.1 (128 : Int))))).bind fun r4 =>
     some (.inl (r4, r3))
     else some (.inr (z1.1, z1.2))) (a0, ([] : List (Int))) : Option ((Int) × (List (Int)))).bind fun r5 =>
 ((Go.Lf.app (1 : Nat) r5.2 ((Go.IntKind.wrap .u8 r5.1) :: ([] : List (Int))))).bind fun r6 =>
 some r6
theorem folioref16_Uint_eq (a0 : Int) : Go.Lf.fnE folioref16_UintCtx folioref16_UintCode folioref16_UintAnn [.val (.int .u64)] [(.rw 5 (.int .u8))] [.tmp 2] (a0) = folioref16_Uint a0 := by kernel_rfl
noncomputable def folioref16_UintEnt : Nat × Go.Lf.Entry := (75, ⟨[.val (.int .u64)], [(.rw 5 (.int .u8))], fun z => folioref16_Uint z⟩)
theorem folioref16_Uint_ok : Go.Lf.EntryOk Go.Proofs.Tryd.prog GG 75 folioref16_UintEnt.2 :=
  Go.Lf.fn_ok (c := folioref16_UintCtx) (code := folioref16_UintCode) (an := folioref16_UintAnn) (slots := [.tmp 2]) (fn := Go.Proofs.Tryd.f75) (by kernel_rfl) ⟨Tys_ok, Go.Lf.FnsOk.look .nil, Go.Lf.IpsOk.look .nil⟩ (by kernel_rfl) (by kernel_rfl) (by kernel_rfl) (by kernel_rfl) (by kernel_rfl) (Nat.le_of_ble_eq_true rfl) (by simp [Go.Lf.Ty.top]) (by simp [Go.Lf.Ty.top]) fun z r h => (folioref16_Uint_eq z).trans h
noncomputable def folioref16_instructionCtx : Go.Lf.Ctx := ⟨23, Tys, [folioref16_UintEnt], [4], [], [(4, (.rw 5 (.int .u8)))], []⟩
noncomputable def folioref16_instructionCode : Go.Code := (Go.Proofs.Tryd.f54.body).getD .skip
def folioref16_instructionAnn : Go.Lf.Ann := .no
noncomputable def folioref16_instruction (a0 : Int) (a1 : Int) : Option (List (Int)) :=
 bif (decide (a1 < (15 : Int))) then some ((Go.IntKind.wrap .u8 (Go.IntKind.wrap .i64 ((Go.IntKind.wrap .i64 ((16 : Int) * a0)) + a1))) :: ([] : List (Int)))
 else ((Go.Fn.folioref16_Uint (Go.IntKind.wrap .u64 (Go.IntKind.wrap .i64 (a1 - (15 : Int)))))).bind fun r1 =>
 ((Go.Lf.app (1 : Nat) ((Go.IntKind.wrap .u8 (Go.IntKind.wrap .i64 ((Go.IntKind.wrap .i64 ((16 : Int) * a0)) + (15 : Int)))) :: ([] : List (Int))) r1)).bind fun r2 =>
 some r2
theorem folioref16_instruction_eq (a0 : Int) (a1 : Int) : Go.Lf.fnE folioref16_instructionCtx folioref16_instructionCode folioref16_instructionAnn [.val (.int .i64), .val (.int .i64)] [(.rw 5 (.int .u8))] [.tmp 4] (a0, a1) = folioref16_instruction a0 a1 := by kernel_rfl
noncomputable def folioref16_instructionEnt : Nat × Go.Lf.Entry := (54, ⟨[.val (.int .i64), .val (.int .i64)], [(.rw 5 (.int .u8))], fun z => folioref16_instruction z.1 z.2⟩)
theorem folioref16_instruction_ok : Go.Lf.EntryOk Go.Proofs.Tryd.prog GG 54 folioref16_instructionEnt.2 :=
  Go.Lf.fn_ok (c := folioref16_instructionCtx) (code := folioref16_instructionCode) (an := folioref16_instructionAnn) (slots := [.tmp 4]) (fn := Go.Proofs.Tryd.f54) (by kernel_rfl) ⟨Tys_ok, Go.Lf.FnsOk.look (.con folioref16_Uint_ok .nil), Go.Lf.IpsOk.look .nil⟩ (by kernel_rfl) (by kernel_rfl) (by kernel_rfl) (by kernel_rfl) (by kernel_rfl) (Nat.le_of_ble_eq_true rfl) (by simp [Go.Lf.Ty.top]) (by simp [Go.Lf.Ty.top]) fun z r h => (folioref16_instruction_eq z.1 z.2).trans h
noncomputable def folioref16_bytesCtx : Go.Lf.Ctx := ⟨95, Tys, [folioref16_instructionEnt, folioref16_numberedEnt], [4, 6, 46, 54], [], [(4, (.rw 5 (.int .u8))), (6, (.rw 5 (.int .u8))), (46, (.rw 5 (.int .u8))), (54, (.rw 5 (.int .u8)))], []⟩
noncomputable def folioref16_bytesCode : Go.Code := (Go.Proofs.Tryd.f88.body).getD .skip
def folioref16_bytesAnn : Go.Lf.Ann := (.seq .no (.seq (.seq .no (.cnd .no (.seq .no (.cnd (.seq (.seq (.join (.one .nrm ⟨[1, 0], [], [(22, .bool)], [], []⟩) .no) .no) (.seq .no (.seq (.seq .no (.loop ⟨[1], [], [(7, (.int .i64)), (6, (.rw 5 (.int .u8)))], [], []⟩ (.more (.ext 1) ⟨[], [], [(6, (.rw 5 (.int .u8)))], [], []⟩ (.one .ret ⟨[], [], [(4, (.rw 5 (.int .u8))), (5, .bool)], [], []⟩)) (.seq .no (.seq (.seq (.seq (.join (.one .nrm ⟨[1, 7], [], [(45, .bool), (6, (.rw 5 (.int .u8)))], [], []⟩) .no) .no) .no) .no)))) .no))) (.seq .no (.cnd (.seq (.seq (.join (.one .nrm ⟨[0, 1], [], [(72, .bool)], [], []⟩) .no) .no) (.seq .no (.seq (.join (.one .nrm ⟨[0], [], [(8, (.int .i64))], [], []⟩) .no) (.seq (.join (.one .nrm ⟨[0], [], [(8, (.int .i64))], [], []⟩) .no) .no)))) .no)))))) .no))
noncomputable def folioref16_bytes (a0 : Int) (a1 : List (Int)) : Option ((List (Int)) × (Bool)) :=
 bif (decide ((a0 : Int) = (0 : Int))) then some (([] : List (Int)), false)
 else bif (decide ((a0 : Int) = (12 : Int))) then (bif (!(decide ((((List.length a1) : Nat) : Int) < (1 : Int)))) then some (decide ((16 : Int) < (((List.length a1) : Nat) : Int)))
   else some true).bind fun r1 =>
 bif r1 then some (([] : List (Int)), false)
 else ((Go.Fn.folioref16_instruction a0 (Go.IntKind.wrap .i64 ((((List.length a1) : Nat) : Int) - (1 : Int))))).bind fun r2 =>
 (Go.Lf.loopC (σ := (Int) × (List (Int))) (κ := (List (Int)) ⊕ ((List (Int)) × (Bool))) (fun z3 =>
     bif (decide (z3.1 < (((List.length a1) : Nat) : Int))) then (((Go.Lf.idx a1 z3.1)).bind fun r4 =>
       bif (!(decide (r4 < (0 : Int)))) then ((Go.Lf.idx a1 z3.1)).bind fun r5 =>
       some ((decide ((255 : Int) < r5)), z3.2)
       else some (true, z3.2)).bind fun r6 =>
     bif r6.1 then some (.inr (.inr (([] : List (Int)), false)))
     else ((Go.Lf.idx a1 z3.1)).bind fun r7 =>
     ((Go.Lf.app (1 : Nat) r6.2 ((Go.IntKind.wrap .u8 r7) :: ([] : List (Int))))).bind fun r8 =>
     some (.inl ((Go.IntKind.wrap .i64 (z3.1 + (1 : Int))), r8))
     else some (.inr (.inl z3.2))) ((0 : Int), r2) : Option ((List (Int)) ⊕ ((List (Int)) × (Bool)))).bind fun r9 =>
 Go.Lf.onSum r9 (fun a10 =>
 some (a10, true)) (fun b11 =>
 some (b11.1, b11.2))
 else ((Go.Fn.folioref16_numbered a0)).bind fun r12 =>
 bif r12 then (bif (!(decide (((((List.length a1) : Nat) : Int) : Int) ≠ (1 : Int)))) then ((Go.Lf.idx a1 (0 : Int))).bind fun r13 =>
   bif (!(decide (r13 < (-(1 : Int))))) then ((Go.Lf.idx a1 (0 : Int))).bind fun r14 =>
   some (decide ((2147483647 : Int) < r14))
   else some true
   else some true).bind fun r15 =>
 bif r15 then some (([] : List (Int)), false)
 else ((Go.Lf.idx a1 (0 : Int))).bind fun r16 =>
 (bif (decide ((a0 : Int) = (1 : Int))) then some (Go.IntKind.wrap .i64 (r16 - (1 : Int)))
   else some r16).bind fun r17 =>
 (bif (decide ((a0 : Int) = (8 : Int))) then some (Go.IntKind.wrap .i64 (r17 + (1 : Int)))
   else some r17).bind fun r18 =>
 ((Go.Fn.folioref16_instruction a0 (Max.max r18 (0 : Int)))).bind fun r19 =>
 some (r19, (decide ((0 : Int) ≤ r18)))
 else ((Go.Fn.folioref16_instruction a0 (0 : Int))).bind fun r20 =>
 some (r20, (decide (((((List.length a1) : Nat) : Int) : Int) = (0 : Int))))
theorem folioref16_bytes_eq (a0 : Int) (a1 : List (Int)) : Go.Lf.fnE folioref16_bytesCtx folioref16_bytesCode folioref16_bytesAnn [.val (.int .i64), .val (.sl (.int .i64))] [(.rw 5 (.int .u8)), .bool] [.tmp 4, .tmp 5] (a0, a1) = folioref16_bytes a0 a1 := by kernel_rfl
noncomputable def folioref16_bytesEnt : Nat × Go.Lf.Entry := (88, ⟨[.val (.int .i64), .val (.sl (.int .i64))], [(.rw 5 (.int .u8)), .bool], fun z => folioref16_bytes z.1 z.2⟩)
theorem folioref16_bytes_ok : Go.Lf.EntryOk Go.Proofs.Tryd.prog GG 88 folioref16_bytesEnt.2 :=
  Go.Lf.fn_ok (c := folioref16_bytesCtx) (code := folioref16_bytesCode) (an := folioref16_bytesAnn) (slots := [.tmp 4, .tmp 5]) (fn := Go.Proofs.Tryd.f88) (by kernel_rfl) ⟨Tys_ok, Go.Lf.FnsOk.look (.con folioref16_instruction_ok (.con folioref16_numbered_ok .nil)), Go.Lf.IpsOk.look .nil⟩ (by kernel_rfl) (by kernel_rfl) (by kernel_rfl) (by kernel_rfl) (by kernel_rfl) (Nat.le_of_ble_eq_true rfl) (by simp [Go.Lf.Ty.top]) (by simp [Go.Lf.Ty.top]) fun z r h => (folioref16_bytes_eq z.1 z.2).trans h
noncomputable def folioref16_readCtx : Go.Lf.Ctx := ⟨87, Tys, [folioref16_NextEnt, folioref16_LineEnt, strconv_ItoaEnt, folioref16_NameEnt, folioref16_wordsEnt, folioref16_numberEnt, folioref16_bytesEnt], [4, 10, 14, 58, 62, 66, 77], [], [(4, (.rw 5 (.int .u8))), (10, (.rw 3 (.int .i64))), (14, (.rw 5 (.int .u8))), (58, (.rw 3 (.int .i64))), (66, (.rw 5 (.int .u8))), (77, (.rw 5 (.int .u8)))], []⟩
noncomputable def folioref16_readCode : Go.Code := (Go.Proofs.Tryd.f65.body).getD .skip
def folioref16_readAnn : Go.Lf.Ann := (.seq .no (.seq .no (.seq (.seq (.join (.one .nrm ⟨[7, 0, 1], [], [(30, .bool)], [], []⟩) (.draw 11)) .no) (.seq .no (.seq (.seq .no (.loop ⟨[7, 0, 1], [], [(9, (.int .i64)), (8, (.int .i64))], [], []⟩ (.one (.ext 0) ⟨[7, 0, 1], [], [(8, (.int .i64))], [], []⟩) (.seq .no (.seq (.join (.one .nrm ⟨[7, 0, 1, 9], [], [(8, (.int .i64))], [], []⟩) (.seq (.draw 6) .no)) .no)))) (.seq .no (.seq (.seq .no (.loop ⟨[7, 0, 8, 1], [], [(11, (.int .i64)), (10, (.rw 3 (.int .i64)))], [], []⟩ (.more (.ext 2) ⟨[0, 8, 1], [], [(10, (.rw 3 (.int .i64)))], [], []⟩ (.one .ret ⟨[], [], [(4, (.rw 5 (.int .u8))), (5, (.int .i64)), (6, .bool)], [], []⟩)) .no)) (.seq .no (.seq .no (.seq .no (.seq .no (.seq (.join (.one .nrm ⟨[], [], [(4, (.rw 5 (.int .u8))), (5, (.int .i64)), (6, .bool)], [], []⟩) .no) .no))))))))))))
noncomputable def folioref16_read (a0 : List (UInt8)) (a1 : Int) : Option ((List (Int)) × ((Int) × (Bool))) :=
 ((Go.Fn.folioref16_words a0)).bind fun r1 =>
 (bif (!(decide ((((List.length r1) : Nat) : Int) < (2 : Int)))) then ((Go.Lf.idx r1 (0 : Int))).bind fun r2 =>
   ((Go.Fn.strconv_Itoa a1)).bind fun r3 =>
   some (decide ((r2 : List (UInt8)) ≠ r3))
   else some true).bind fun r4 =>
 bif r4 then some (([] : List (Int)), ((0 : Int), false))
 else (Go.Lf.loopC (σ := (Int) × (Int)) (κ := Int) (fun z5 =>
     bif (decide (z5.1 ≤ (15 : Int))) then (((Go.Lf.idx r1 (1 : Int))).bind fun r6 =>
       ((Go.Fn.folioref16_Name z5.1)).bind fun r7 =>
       bif (decide ((r6 : List (UInt8)) = r7)) then some z5.1
       else some z5.2).bind fun r8 =>
     some (.inl ((Go.IntKind.wrap .i64 (z5.1 + (1 : Int))), r8))
     else some (.inr z5.2)) ((1 : Int), (0 : Int)) : Option (Int)).bind fun r9 =>
 (Go.Lf.loopC (σ := (Int) × (List (Int))) (κ := (List (Int)) ⊕ ((List (Int)) × ((Int) × (Bool)))) (fun z10 =>
     bif (decide (z10.1 < (((List.length r1) : Nat) : Int))) then ((Go.Lf.idx r1 z10.1)).bind fun r11 =>
     ((Go.Fn.folioref16_number r11)).bind fun r12 =>
     bif (!r12.2) then some (.inr (.inr (([] : List (Int)), ((0 : Int), false))))
     else ((Go.Lf.app (8 : Nat) z10.2 (r12.1 :: ([] : List (Int))))).bind fun r13 =>
     some (.inl ((Go.IntKind.wrap .i64 (z10.1 + (1 : Int))), r13))
     else some (.inr (.inl z10.2))) ((2 : Int), ([] : List (Int))) : Option ((List (Int)) ⊕ ((List (Int)) × ((Int) × (Bool))))).bind fun r14 =>
 Go.Lf.onSum r14 (fun a15 =>
 ((Go.Fn.folioref16_bytes r9 a15)).bind fun r16 =>
 bif (!r16.2) then some (([] : List (Int)), ((0 : Int), false))
 else ((Go.Fn.folioref16_Next r16.1 (0 : Int))).bind fun r17 =>
 (bif (decide ((r17.2 : Int) = (0 : Int))) then ((Go.Fn.folioref16_Line (a1, r17.1.2))).bind fun r18 =>
   some (r16.1, (r9, (decide ((r18 : List (UInt8)) = a0))))
   else some (r16.1, (r9, false))).bind fun r19 =>
 some (r19.1, (r19.2.1, r19.2.2))) (fun b20 =>
 some (b20.1, (b20.2.1, b20.2.2)))
theorem folioref16_read_eq (a0 : List (UInt8)) (a1 : Int) : Go.Lf.fnE folioref16_readCtx folioref16_readCode folioref16_readAnn [.val .str, .val (.int .i64)] [(.rw 5 (.int .u8)), (.int .i64), .bool] [.tmp 4, .tmp 5, .tmp 6] (a0, a1) = folioref16_read a0 a1 := by kernel_rfl
noncomputable def folioref16_readEnt : Nat × Go.Lf.Entry := (65, ⟨[.val .str, .val (.int .i64)], [(.rw 5 (.int .u8)), (.int .i64), .bool], fun z => folioref16_read z.1 z.2⟩)
theorem folioref16_read_ok : Go.Lf.EntryOk Go.Proofs.Tryd.prog GG 65 folioref16_readEnt.2 :=
  Go.Lf.fn_ok (c := folioref16_readCtx) (code := folioref16_readCode) (an := folioref16_readAnn) (slots := [.tmp 4, .tmp 5, .tmp 6]) (fn := Go.Proofs.Tryd.f65) (by kernel_rfl) ⟨Tys_ok, Go.Lf.FnsOk.look (.con folioref16_Next_ok (.con folioref16_Line_ok (.con strconv_Itoa_ok (.con folioref16_Name_ok (.con folioref16_words_ok (.con folioref16_number_ok (.con folioref16_bytes_ok .nil))))))), Go.Lf.IpsOk.look .nil⟩ (by kernel_rfl) (by kernel_rfl) (by kernel_rfl) (by kernel_rfl) (by kernel_rfl) (Nat.le_of_ble_eq_true rfl) (by simp [Go.Lf.Ty.top]) (by simp [Go.Lf.Ty.top]) fun z r h => (folioref16_read_eq z.1 z.2).trans h
noncomputable def folioref16_ReadCtx : Go.Lf.Ctx := ⟨47, Tys, [folioref16_readEnt], [2, 5, 38, 46], [], [(2, (.rw 5 (.int .u8))), (5, (.rw 5 (.int .u8))), (38, (.rw 5 (.int .u8))), (46, (.rw 5 (.int .u8)))], []⟩
noncomputable def folioref16_ReadCode : Go.Code := (Go.Proofs.Tryd.f43.body).getD .skip
def folioref16_ReadAnn : Go.Lf.Ann := (.seq .no (.seq .no (.seq .no (.seq .no (.seq (.seq .no (.loop ⟨[0], [], [(7, (.int .i64)), (5, (.rw 5 (.int .u8))), (6, (.int .i64))], [], []⟩ (.more (.ext 0) ⟨[0], [], [(5, (.rw 5 (.int .u8))), (6, (.int .i64))], [], []⟩ (.one .ret ⟨[], [], [(2, (.rw 5 (.int .u8))), (3, (.int .i64)), (4, (.int .i64))], [], []⟩)) (.seq .no (.seq (.seq .no (.seq (.seq (.join (.one .nrm ⟨[7, 0, 9, 8], [], [(36, .bool), (5, (.rw 5 (.int .u8)))], [], []⟩) .no) .no) .no)) .no)))) .no)))))
noncomputable def folioref16_Read (a0 : List (List (UInt8))) : Option ((List (Int)) × ((Int) × (Int))) :=
 bif (decide ((65537 : Int) < (((List.length a0) : Nat) : Int))) then some (([] : List (Int)), ((0 : Int), (2 : Int)))
 else (Go.Lf.loopC (σ := (Int) × ((List (Int)) × (Int))) (κ := ((List (Int)) × (Int)) ⊕ ((List (Int)) × ((Int) × (Int)))) (fun z1 =>
     bif (decide (z1.1 < (((List.length a0) : Nat) : Int))) then ((Go.Lf.idx a0 z1.1)).bind fun r2 =>
     ((Go.Fn.folioref16_read r2 (((List.length z1.2.1) : Nat) : Int))).bind fun r3 =>
     (bif (!(!r3.2.2)) then some ((decide ((z1.2.2 : Int) = (15 : Int))), z1.2.1)
       else some (true, z1.2.1)).bind fun r4 =>
     bif r4.1 then some (.inr (.inr (([] : List (Int)), (z1.1, (163 : Int)))))
     else ((Go.Lf.app (1 : Nat) r4.2 r3.1)).bind fun r5 =>
     some (.inl ((Go.IntKind.wrap .i64 (z1.1 + (1 : Int))), (r5, r3.2.1)))
     else some (.inr (.inl (z1.2.1, z1.2.2)))) ((0 : Int), (([] : List (Int)), (0 : Int))) : Option (((List (Int)) × (Int)) ⊕ ((List (Int)) × ((Int) × (Int))))).bind fun r6 =>
 Go.Lf.onSum r6 (fun a7 =>
 bif (decide ((a7.2 : Int) ≠ (15 : Int))) then some (([] : List (Int)), ((((List.length a0) : Nat) : Int), (162 : Int)))
 else some (a7.1, ((0 : Int), (0 : Int)))) (fun b8 =>
 some (b8.1, (b8.2.1, b8.2.2)))
theorem folioref16_Read_eq (a0 : List (List (UInt8))) : Go.Lf.fnE folioref16_ReadCtx folioref16_ReadCode folioref16_ReadAnn [.val (.sl .str)] [(.rw 5 (.int .u8)), (.int .i64), (.int .i64)] [.tmp 2, .tmp 3, .tmp 4] (a0) = folioref16_Read a0 := by kernel_rfl
noncomputable def folioref16_ReadEnt : Nat × Go.Lf.Entry := (43, ⟨[.val (.sl .str)], [(.rw 5 (.int .u8)), (.int .i64), (.int .i64)], fun z => folioref16_Read z⟩)
theorem folioref16_Read_ok : Go.Lf.EntryOk Go.Proofs.Tryd.prog GG 43 folioref16_ReadEnt.2 :=
  Go.Lf.fn_ok (c := folioref16_ReadCtx) (code := folioref16_ReadCode) (an := folioref16_ReadAnn) (slots := [.tmp 2, .tmp 3, .tmp 4]) (fn := Go.Proofs.Tryd.f43) (by kernel_rfl) ⟨Tys_ok, Go.Lf.FnsOk.look (.con folioref16_read_ok .nil), Go.Lf.IpsOk.look .nil⟩ (by kernel_rfl) (by kernel_rfl) (by kernel_rfl) (by kernel_rfl) (by kernel_rfl) (Nat.le_of_ble_eq_true rfl) (by simp [Go.Lf.Ty.top]) (by simp [Go.Lf.Ty.top]) fun z r h => (folioref16_Read_eq z).trans h
noncomputable def foliolaw16_CodeListsCtx : Go.Lf.Ctx := ⟨73, Tys, [foliolaw16_awakeEnt, foliolaw16_bytesEnt, code_ListEnt, folioref16_ListingEnt, foliolaw16_linesEnt, code_ReadEnt, folioref16_ReadEnt], [], [], [], []⟩
noncomputable def foliolaw16_CodeListsCode : Go.Code := (Go.Proofs.Tryd.f9.body).getD .skip
def foliolaw16_CodeListsAnn : Go.Lf.Ann := (.seq .no (.seq .no (.seq .no (.seq (.seq (.join (.one .nrm ⟨[1], [], [(43, .bool)], [], []⟩) .no) .no) (.seq .no (.seq .no (.seq (.join (.one .nrm ⟨[], [], [(4, .bool)], [], []⟩) .no) .no)))))))
noncomputable def foliolaw16_CodeLists (a0 : List (Int)) (a1 : List (List (UInt8))) : Option (Bool) :=
 ((Go.Fn.foliolaw16_bytes a0)).bind fun r1 =>
 ((Go.Fn.code_List r1)).bind fun r2 =>
 ((Go.Fn.folioref16_Listing a0)).bind fun r3 =>
 (((Go.Fn.foliolaw16_lines r2.1 r3.1)).bind fun r4 =>
   bif (!(!r4)) then bif (!(decide ((r2.2.1 : Int) ≠ r3.2.1))) then bif (!(decide ((r2.2.2 : Int) ≠ r3.2.2))) then (Go.Fn.foliolaw16_awake).bind fun r5 =>
   some (!r5)
   else some true
   else some true
   else some true).bind fun r6 =>
 bif r6 then some false
 else ((Go.Lf.app (16 : Nat) ([] : List (List (UInt8))) a1)).bind fun r7 =>
 ((Go.Fn.code_Read r7)).bind fun r8 =>
 ((Go.Fn.folioref16_Read a1)).bind fun r9 =>
 (bif (decide (((Go.Lf.bytesU r8.1) : List (UInt8)) = (Go.Lf.bytesU r9.1))) then bif (decide ((r8.2.1 : Int) = r9.2.1)) then some (decide ((r8.2.2 : Int) = r9.2.2))
   else some false
   else some false).bind fun r10 =>
 some r10
theorem foliolaw16_CodeLists_eq (a0 : List (Int)) (a1 : List (List (UInt8))) : Go.Lf.fnE foliolaw16_CodeListsCtx foliolaw16_CodeListsCode foliolaw16_CodeListsAnn [.val (.sl (.int .u8)), .val (.sl .str)] [.bool] [.tmp 4] (a0, a1) = foliolaw16_CodeLists a0 a1 := by kernel_rfl
noncomputable def foliolaw16_CodeListsEnt : Nat × Go.Lf.Entry := (9, ⟨[.val (.sl (.int .u8)), .val (.sl .str)], [.bool], fun z => foliolaw16_CodeLists z.1 z.2⟩)
theorem foliolaw16_CodeLists_ok : Go.Lf.EntryOk Go.Proofs.Tryd.prog GG 9 foliolaw16_CodeListsEnt.2 :=
  Go.Lf.fn_ok (c := foliolaw16_CodeListsCtx) (code := foliolaw16_CodeListsCode) (an := foliolaw16_CodeListsAnn) (slots := [.tmp 4]) (fn := Go.Proofs.Tryd.f9) (by kernel_rfl) ⟨Tys_ok, Go.Lf.FnsOk.look (.con foliolaw16_awake_ok (.con foliolaw16_bytes_ok (.con code_List_ok (.con folioref16_Listing_ok (.con foliolaw16_lines_ok (.con code_Read_ok (.con folioref16_Read_ok .nil))))))), Go.Lf.IpsOk.look .nil⟩ (by kernel_rfl) (by kernel_rfl) (by kernel_rfl) (by kernel_rfl) (by kernel_rfl) (Nat.le_of_ble_eq_true rfl) (by simp [Go.Lf.Ty.top]) (by simp [Go.Lf.Ty.top]) fun z r h => (foliolaw16_CodeLists_eq z.1 z.2).trans h
noncomputable def folioref16_intsCtx : Go.Lf.Ctx := ⟨26, Tys, [], [], [], [], []⟩
noncomputable def folioref16_intsCode : Go.Code := (Go.Proofs.Tryd.f61.body).getD .skip
def folioref16_intsAnn : Go.Lf.Ann := (.seq .no (.seq .no (.seq (.seq .no (.loop ⟨[1, 0], [], [(5, (.int .i64))], [], []⟩ (.more (.ext 0) ⟨[], [], [], [], []⟩ (.one .ret ⟨[], [], [(4, .bool)], [], []⟩)) (.seq .no (.seq (.seq (.draw 9) .no) .no)))) .no)))
noncomputable def folioref16_ints (a0 : List (Int)) (a1 : List (Int)) : Option (Bool) :=
 bif (decide (((((List.length a0) : Nat) : Int) : Int) ≠ (((List.length a1) : Nat) : Int))) then some false
 else (Go.Lf.loopC (σ := Int) (κ := (Unit) ⊕ (Bool)) (fun z1 =>
     bif (decide (z1 < (((List.length a0) : Nat) : Int))) then ((Go.Lf.idx a0 z1)).bind fun r2 =>
     ((Go.Lf.idx a1 z1)).bind fun r3 =>
     bif (decide ((r2 : Int) ≠ r3)) then some (.inr (.inr false))
     else some (.inl (Go.IntKind.wrap .i64 (z1 + (1 : Int))))
     else some (.inr (.inl ()))) (0 : Int) : Option ((Unit) ⊕ (Bool))).bind fun r4 =>
 Go.Lf.onSum r4 (fun a5 =>
 some true) (fun b6 =>
 some b6)
theorem folioref16_ints_eq (a0 : List (Int)) (a1 : List (Int)) : Go.Lf.fnE folioref16_intsCtx folioref16_intsCode folioref16_intsAnn [.val (.sl (.int .i64)), .val (.sl (.int .i64))] [.bool] [.tmp 4] (a0, a1) = folioref16_ints a0 a1 := by kernel_rfl
noncomputable def folioref16_intsEnt : Nat × Go.Lf.Entry := (61, ⟨[.val (.sl (.int .i64)), .val (.sl (.int .i64))], [.bool], fun z => folioref16_ints z.1 z.2⟩)
theorem folioref16_ints_ok : Go.Lf.EntryOk Go.Proofs.Tryd.prog GG 61 folioref16_intsEnt.2 :=
  Go.Lf.fn_ok (c := folioref16_intsCtx) (code := folioref16_intsCode) (an := folioref16_intsAnn) (slots := [.tmp 4]) (fn := Go.Proofs.Tryd.f61) (by kernel_rfl) ⟨Tys_ok, Go.Lf.FnsOk.look .nil, Go.Lf.IpsOk.look .nil⟩ (by kernel_rfl) (by kernel_rfl) (by kernel_rfl) (by kernel_rfl) (by kernel_rfl) (Nat.le_of_ble_eq_true rfl) (by simp [Go.Lf.Ty.top]) (by simp [Go.Lf.Ty.top]) fun z r h => (folioref16_ints_eq z.1 z.2).trans h
noncomputable def folioref16_SameInstrCtx : Go.Lf.Ctx := ⟨38, Tys, [folioref16_intsEnt], [], [], [], []⟩
noncomputable def folioref16_SameInstrCode : Go.Code := (Go.Proofs.Tryd.f33.body).getD .skip
def folioref16_SameInstrAnn : Go.Lf.Ann := (.seq .no (.seq (.join (.one .nrm ⟨[], [], [(4, .bool)], [], []⟩) .no) .no))
noncomputable def folioref16_SameInstr (a0 : (Int) × ((Int) × ((Int) × ((Int) × ((List (Int)) × (Unit)))))) (a1 : (Int) × ((Int) × ((Int) × ((Int) × ((List (Int)) × (Unit)))))) : Option (Bool) :=
 (bif (decide ((a0.1 : Int) = a1.1)) then bif (decide ((a0.2.1 : Int) = a1.2.1)) then bif (decide ((a0.2.2.1 : Int) = a1.2.2.1)) then bif (decide ((a0.2.2.2.1 : Int) = a1.2.2.2.1)) then ((Go.Fn.folioref16_ints a0.2.2.2.2.1 a1.2.2.2.2.1)).bind fun r1 =>
   some r1
   else some false
   else some false
   else some false
   else some false).bind fun r2 =>
 some r2
theorem folioref16_SameInstr_eq (a0 : (Int) × ((Int) × ((Int) × ((Int) × ((List (Int)) × (Unit)))))) (a1 : (Int) × ((Int) × ((Int) × ((Int) × ((List (Int)) × (Unit)))))) : Go.Lf.fnE folioref16_SameInstrCtx folioref16_SameInstrCode folioref16_SameInstrAnn [.val (.st (.pr (.int .i64) (.pr (.int .i64) (.pr (.int .i64) (.pr (.int .i64) (.pr (.sl (.int .i64)) .unit)))))), .val (.st (.pr (.int .i64) (.pr (.int .i64) (.pr (.int .i64) (.pr (.int .i64) (.pr (.sl (.int .i64)) .unit))))))] [.bool] [.tmp 4] (a0, a1) = folioref16_SameInstr a0 a1 := by kernel_rfl
noncomputable def folioref16_SameInstrEnt : Nat × Go.Lf.Entry := (33, ⟨[.val (.st (.pr (.int .i64) (.pr (.int .i64) (.pr (.int .i64) (.pr (.int .i64) (.pr (.sl (.int .i64)) .unit)))))), .val (.st (.pr (.int .i64) (.pr (.int .i64) (.pr (.int .i64) (.pr (.int .i64) (.pr (.sl (.int .i64)) .unit))))))], [.bool], fun z => folioref16_SameInstr z.1 z.2⟩)
theorem folioref16_SameInstr_ok : Go.Lf.EntryOk Go.Proofs.Tryd.prog GG 33 folioref16_SameInstrEnt.2 :=
  Go.Lf.fn_ok (c := folioref16_SameInstrCtx) (code := folioref16_SameInstrCode) (an := folioref16_SameInstrAnn) (slots := [.tmp 4]) (fn := Go.Proofs.Tryd.f33) (by kernel_rfl) ⟨Tys_ok, Go.Lf.FnsOk.look (.con folioref16_ints_ok .nil), Go.Lf.IpsOk.look .nil⟩ (by kernel_rfl) (by kernel_rfl) (by kernel_rfl) (by kernel_rfl) (by kernel_rfl) (Nat.le_of_ble_eq_true rfl) (by simp [Go.Lf.Ty.top]) (by simp [Go.Lf.Ty.top]) fun z r h => (folioref16_SameInstr_eq z.1 z.2).trans h
noncomputable def foliolaw16_instrsCtx : Go.Lf.Ctx := ⟨27, Tys, [folioref16_SameInstrEnt], [], [], [], []⟩
noncomputable def foliolaw16_instrsCode : Go.Code := (Go.Proofs.Tryd.f36.body).getD .skip
def foliolaw16_instrsAnn : Go.Lf.Ann := (.seq .no (.seq .no (.seq (.seq .no (.loop ⟨[1, 0], [], [(5, (.int .i64))], [], []⟩ (.more (.ext 0) ⟨[], [], [], [], []⟩ (.one .ret ⟨[], [], [(4, .bool)], [], []⟩)) (.seq .no (.seq (.seq (.draw 10) .no) .no)))) .no)))
noncomputable def foliolaw16_instrs (a0 : List ((Int) × ((Int) × ((Int) × ((Int) × ((List (Int)) × (Unit))))))) (a1 : List ((Int) × ((Int) × ((Int) × ((Int) × ((List (Int)) × (Unit))))))) : Option (Bool) :=
 bif (decide (((((List.length a0) : Nat) : Int) : Int) ≠ (((List.length a1) : Nat) : Int))) then some false
 else (Go.Lf.loopC (σ := Int) (κ := (Unit) ⊕ (Bool)) (fun z1 =>
     bif (decide (z1 < (((List.length a0) : Nat) : Int))) then ((Go.Lf.idx a0 z1)).bind fun r2 =>
     ((Go.Lf.idx a1 z1)).bind fun r3 =>
     ((Go.Fn.folioref16_SameInstr r2 r3)).bind fun r4 =>
     bif (!r4) then some (.inr (.inr false))
     else some (.inl (Go.IntKind.wrap .i64 (z1 + (1 : Int))))
     else some (.inr (.inl ()))) (0 : Int) : Option ((Unit) ⊕ (Bool))).bind fun r5 =>
 Go.Lf.onSum r5 (fun a6 =>
 some true) (fun b7 =>
 some b7)
theorem foliolaw16_instrs_eq (a0 : List ((Int) × ((Int) × ((Int) × ((Int) × ((List (Int)) × (Unit))))))) (a1 : List ((Int) × ((Int) × ((Int) × ((Int) × ((List (Int)) × (Unit))))))) : Go.Lf.fnE foliolaw16_instrsCtx foliolaw16_instrsCode foliolaw16_instrsAnn [.val (.sl (.st (.pr (.int .i64) (.pr (.int .i64) (.pr (.int .i64) (.pr (.int .i64) (.pr (.sl (.int .i64)) .unit))))))), .val (.sl (.st (.pr (.int .i64) (.pr (.int .i64) (.pr (.int .i64) (.pr (.int .i64) (.pr (.sl (.int .i64)) .unit)))))))] [.bool] [.tmp 4] (a0, a1) = foliolaw16_instrs a0 a1 := by kernel_rfl
noncomputable def foliolaw16_instrsEnt : Nat × Go.Lf.Entry := (36, ⟨[.val (.sl (.st (.pr (.int .i64) (.pr (.int .i64) (.pr (.int .i64) (.pr (.int .i64) (.pr (.sl (.int .i64)) .unit))))))), .val (.sl (.st (.pr (.int .i64) (.pr (.int .i64) (.pr (.int .i64) (.pr (.int .i64) (.pr (.sl (.int .i64)) .unit)))))))], [.bool], fun z => foliolaw16_instrs z.1 z.2⟩)
theorem foliolaw16_instrs_ok : Go.Lf.EntryOk Go.Proofs.Tryd.prog GG 36 foliolaw16_instrsEnt.2 :=
  Go.Lf.fn_ok (c := foliolaw16_instrsCtx) (code := foliolaw16_instrsCode) (an := foliolaw16_instrsAnn) (slots := [.tmp 4]) (fn := Go.Proofs.Tryd.f36) (by kernel_rfl) ⟨Tys_ok, Go.Lf.FnsOk.look (.con folioref16_SameInstr_ok .nil), Go.Lf.IpsOk.look .nil⟩ (by kernel_rfl) (by kernel_rfl) (by kernel_rfl) (by kernel_rfl) (by kernel_rfl) (Nat.le_of_ble_eq_true rfl) (by simp [Go.Lf.Ty.top]) (by simp [Go.Lf.Ty.top]) fun z r h => (foliolaw16_instrs_eq z.1 z.2).trans h
noncomputable def foliolaw16_CodeTilesCtx : Go.Lf.Ctx := ⟨155, Tys, [foliolaw16_awakeEnt, code_NextEnt, foliolaw16_bytesEnt, folioref16_SameInstrEnt, code_InstrsEnt, foliolaw16_instrsEnt, code_ListEnt, code_ReadEnt], [], [], [], []⟩
noncomputable def foliolaw16_CodeTilesCode : Go.Code := (Go.Proofs.Tryd.f10.body).getD .skip
def foliolaw16_CodeTilesAnn : Go.Lf.Ann := (.seq .no (.seq .no (.seq .no (.seq .no (.seq .no (.seq (.seq .no (.loop ⟨[5, 0, 1], [], [(9, (.int .i64)), (8, (.int .i64))], [], []⟩ (.more (.ext 0) ⟨[5, 1, 0], [], [(8, (.int .i64))], [], []⟩ (.one .ret ⟨[], [], [(4, .bool)], [], []⟩)) (.seq .no (.seq (.seq (.seq (.join (.one .nrm ⟨[5, 0, 1, 9, 8], [], [(53, .bool)], [], []⟩) .no) .no) (.seq .no (.seq .no (.seq (.soup 12) (.seq (.join (.one .nrm ⟨[5, 0, 8, 1, 9], [], [(94, .bool)], [], []⟩) (.draw 11)) .no))))) .no)))) (.seq .no (.seq .no (.seq (.seq (.join (.one .nrm ⟨[5, 1, 0, 12], [], [(114, .bool)], [], []⟩) .no) .no) (.seq (.join (.more .ret ⟨[], [], [(4, .bool)], [], []⟩ (.one .nrm ⟨[5, 1, 0], [], [], [], []⟩)) (.seq .no (.cnd (.seq .no (.seq (.join (.one .nrm ⟨[5, 1, 0], [], [(132, .bool)], [], []⟩) .no) .no)) .no))) (.seq .no (.seq (.join (.one .nrm ⟨[], [], [(4, .bool)], [], []⟩) .no) .no))))))))))))
noncomputable def foliolaw16_CodeTiles (a0 : List (Int)) (a1 : List (Int)) : Option (Bool) :=
 (Go.Fn.foliolaw16_awake).bind fun r1 =>
 bif (!r1) then some false
 else ((Go.Fn.foliolaw16_bytes a0)).bind fun r2 =>
 ((Go.Fn.code_Instrs r2)).bind fun r3 =>
 bif (decide ((r3.2.2 : Int) ≠ (0 : Int))) then some (decide (((((List.length r3.1) : Nat) : Int) : Int) = (0 : Int)))
 else (Go.Lf.loopC (σ := (Int) × (Int)) (κ := (Int) ⊕ (Bool)) (fun z4 =>
     bif (decide (z4.1 < (((List.length r3.1) : Nat) : Int))) then (((Go.Lf.idx r3.1 z4.1)).bind fun r5 =>
       bif (!(decide ((r5.1 : Int) ≠ z4.2))) then ((Go.Lf.idx r3.1 z4.1)).bind fun r6 =>
       some (decide (r6.2.1 < (1 : Int)))
       else some true).bind fun r7 =>
     bif r7 then some (.inr (.inr false))
     else ((Go.Lf.idx r3.1 z4.1)).bind fun r8 =>
     ((Go.Lf.idx r3.1 z4.1)).bind fun r9 =>
     bif (decide (((decide ((r9.2.2.1 : Int) = (15 : Int))) : Bool) ≠ (decide ((z4.1 : Int) = (Go.IntKind.wrap .i64 ((((List.length r3.1) : Nat) : Int) - (1 : Int))))))) then some (.inr (.inr false))
     else ((Go.Fn.foliolaw16_bytes a0)).bind fun r10 =>
     ((Go.Lf.idx r3.1 z4.1)).bind fun r11 =>
     ((Go.Fn.code_Next r10 r11.1)).bind fun r12 =>
     (bif (!(decide ((r12.2 : Int) ≠ (0 : Int)))) then ((Go.Lf.idx r3.1 z4.1)).bind fun r13 =>
       ((Go.Fn.folioref16_SameInstr r12.1 r13)).bind fun r14 =>
       some (!r14)
       else some true).bind fun r15 =>
     bif r15 then some (.inr (.inr false))
     else some (.inl ((Go.IntKind.wrap .i64 (z4.1 + (1 : Int))), (Go.IntKind.wrap .i64 (z4.2 + r8.2.1))))
     else some (.inr (.inl z4.2))) ((0 : Int), (0 : Int)) : Option ((Int) ⊕ (Bool))).bind fun r16 =>
 Go.Lf.onSum r16 (fun a17 =>
 bif (decide ((a17 : Int) ≠ (((List.length a0) : Nat) : Int))) then some false
 else ((Go.Fn.foliolaw16_bytes a0)).bind fun r18 =>
 ((Go.Fn.code_List r18)).bind fun r19 =>
 (bif (!(decide ((r19.2.2 : Int) ≠ (0 : Int)))) then some (decide (((((List.length r19.1) : Nat) : Int) : Int) ≠ (((List.length r3.1) : Nat) : Int)))
   else some true).bind fun r20 =>
 bif r20 then some false
 else (bif (decide ((((List.length r19.1) : Nat) : Int) ≤ (65537 : Int))) then ((Go.Fn.code_Read r19.1)).bind fun r21 =>
   (bif (!(decide ((r21.2.2 : Int) ≠ (0 : Int)))) then some (decide (((Go.Lf.bytesU r21.1) : List (UInt8)) ≠ (Go.Lf.bytesU a0)))
     else some true).bind fun r22 =>
   bif r22 then some (.inl false)
   else some (.inr ())
   else some (.inr ()) : Option ((Bool) ⊕ (Unit))).bind fun r23 =>
 Go.Lf.onSum r23 (fun a24 =>
 some a24) (fun b25 =>
 ((Go.Fn.foliolaw16_bytes a1)).bind fun r26 =>
 ((Go.Fn.code_Instrs r26)).bind fun r27 =>
 (bif (!(decide ((r27.2.2 : Int) ≠ (0 : Int)))) then bif (!(decide (((Go.Lf.bytesU a0) : List (UInt8)) = (Go.Lf.bytesU a1)))) then ((Go.Fn.foliolaw16_instrs r3.1 r27.1)).bind fun r28 =>
   some (!r28)
   else some true
   else some true).bind fun r29 =>
 some r29)) (fun b30 =>
 some b30)
theorem foliolaw16_CodeTiles_eq (a0 : List (Int)) (a1 : List (Int)) : Go.Lf.fnE foliolaw16_CodeTilesCtx foliolaw16_CodeTilesCode foliolaw16_CodeTilesAnn [.val (.sl (.int .u8)), .val (.sl (.int .u8))] [.bool] [.tmp 4] (a0, a1) = foliolaw16_CodeTiles a0 a1 := by kernel_rfl
noncomputable def foliolaw16_CodeTilesEnt : Nat × Go.Lf.Entry := (10, ⟨[.val (.sl (.int .u8)), .val (.sl (.int .u8))], [.bool], fun z => foliolaw16_CodeTiles z.1 z.2⟩)
theorem foliolaw16_CodeTiles_ok : Go.Lf.EntryOk Go.Proofs.Tryd.prog GG 10 foliolaw16_CodeTilesEnt.2 :=
  Go.Lf.fn_ok (c := foliolaw16_CodeTilesCtx) (code := foliolaw16_CodeTilesCode) (an := foliolaw16_CodeTilesAnn) (slots := [.tmp 4]) (fn := Go.Proofs.Tryd.f10) (by kernel_rfl) ⟨Tys_ok, Go.Lf.FnsOk.look (.con foliolaw16_awake_ok (.con code_Next_ok (.con foliolaw16_bytes_ok (.con folioref16_SameInstr_ok (.con code_Instrs_ok (.con foliolaw16_instrs_ok (.con code_List_ok (.con code_Read_ok .nil)))))))), Go.Lf.IpsOk.look .nil⟩ (by kernel_rfl) (by kernel_rfl) (by kernel_rfl) (by kernel_rfl) (by kernel_rfl) (Nat.le_of_ble_eq_true rfl) (by simp [Go.Lf.Ty.top]) (by simp [Go.Lf.Ty.top]) fun z r h => (foliolaw16_CodeTiles_eq z.1 z.2).trans h
end Go.Fn
/- Chapter 16, plainly: the program's Next. -/
namespace Go.Fn
open Go Go.Lf

theorem wrapI {x : Int} (h0 : -9223372036854775808 ≤ x) (h1 : x ≤ 9223372036854775807) : IntKind.wrap .i64 x = x := wrap64 h0 h1
theorem wrapU {x : Int} (h0 : 0 ≤ x) (h1 : x < 18446744073709551616) : IntKind.wrap .u64 x = x := by
  simp only [IntKind.wrap]
  simp [IntKind.bits, IntKind.signed]
  omega
theorem wrapB {x : Int} (h0 : 0 ≤ x) (h1 : x < 256) : IntKind.wrap .u8 x = x := by
  simp only [IntKind.wrap]
  simp [IntKind.bits, IntKind.signed]
  omega
theorem bvN {n m : Nat} (h : m < 2 ^ n) : (BitVec.ofInt n (m : Int)).toNat = m := by
  rw [BitVec.toNat_ofInt]
  have h2 : ((2 ^ n : Nat) : Int) = (2 : Int) ^ n := by simp
  rw [show ((m : Int) % ((2 ^ n : Nat) : Int)) = (m : Int) from Int.emod_eq_of_lt (by omega) (by omega)]
  simp
theorem and_low (m k : Nat) : m &&& (2 ^ k - 1) = m % 2 ^ k := Nat.and_two_pow_sub_one_eq_mod m k
theorem bits_low8 {m : Nat} (h : m < 256) : Go.Lf.bits .and .u8 (m : Int) 15 = ((m % 16 : Nat) : Int) := by
  show IntKind.wrap .u8 (((BitVec.ofInt 8 (m : Int)) &&& (BitVec.ofInt 8 ((15 : Nat) : Int))).toNat : Int) = _
  rw [BitVec.toNat_and, bvN (by omega), bvN (by omega), show m &&& 15 = m % 16 from and_low m 4, wrapB (by omega) (by omega)]
theorem bits_low64 {m : Nat} (h : m < 256) : Go.Lf.bits .and .u64 (m : Int) 127 = ((m % 128 : Nat) : Int) := by
  show IntKind.wrap .u64 (((BitVec.ofInt 64 (m : Int)) &&& (BitVec.ofInt 64 ((127 : Nat) : Int))).toNat : Int) = _
  rw [BitVec.toNat_and, bvN (by omega), bvN (by omega), show m &&& 127 = m % 128 from and_low m 7, wrapU (by omega) (by omega)]
theorem or_add {a b k : Nat} (h : a < 2 ^ k) : a ||| b * 2 ^ k = a + b * 2 ^ k := by
  have := Nat.two_pow_add_eq_or_of_lt h b
  rw [Nat.mul_comm b, Nat.or_comm, Nat.add_comm]
  exact this.symm
theorem pow128 (i : Nat) : (128 : Nat) ^ i = 2 ^ (7 * i) := by rw [Nat.pow_mul]
theorem bits_grp {acc y i : Nat} (h : acc < 128 ^ i) (hb : acc + y * 128 ^ i < 18446744073709551616) : Go.Lf.bits .or .u64 (acc : Int) ((y * 128 ^ i : Nat) : Int) = ((acc + y * 128 ^ i : Nat) : Int) := by
  show IntKind.wrap .u64 (((BitVec.ofInt 64 (acc : Int)) ||| (BitVec.ofInt 64 ((y * 128 ^ i : Nat) : Int))).toNat : Int) = _
  rw [BitVec.toNat_or, bvN (by omega), bvN (by omega), pow128, or_add (by rw [← pow128]; exact h), wrapU (by omega) (by rw [← pow128]; omega)]
theorem pow_le_63 {i : Nat} (h : i ≤ 9) : (128 : Nat) ^ i ≤ 9223372036854775808 := by
  have : (128 : Nat) ^ i ≤ 128 ^ 9 := Nat.pow_le_pow_right (by omega) h
  omega
theorem acc_lt {acc i y : Nat} (h : acc < 128 ^ i) (hy : y < 128) : acc + y * 128 ^ i < 128 ^ (i + 1) := by
  rw [Nat.pow_succ]
  have : y * 128 ^ i ≤ 127 * 128 ^ i := Nat.mul_le_mul_right _ (by omega)
  omega
theorem grp_lt {acc i x : Nat} (h : acc < 128 ^ i) (hi : i ≤ 9) (hx : ¬ (i = 9 ∧ 1 < x)) : acc + x % 128 * 128 ^ i < 18446744073709551616 := by
  by_cases h9 : i = 9
  · subst h9
    have : x % 128 ≤ 1 := by omega
    have : x % 128 * 128 ^ 9 ≤ 1 * 128 ^ 9 := Nat.mul_le_mul_right _ this
    omega
  · have h1 := acc_lt (y := x % 128) h (Nat.mod_lt _ (by omega))
    have h2 := pow_le_63 (i := i + 1) (by omega)
    omega
theorem shl_grp {m i : Nat} (h : m * 128 ^ i < 18446744073709551616) (hi : i ≤ 9) : IntKind.wrap .u64 ((m : Int) * (2 : Int) ^ (min (Int.toNat (IntKind.wrap .i64 (7 * (i : Int)))) 64)) = ((m * 128 ^ i : Nat) : Int) := by
  rw [wrapI (by omega) (by omega), show min (Int.toNat (7 * (i : Int))) 64 = 7 * i by omega, show ((m : Int) * 2 ^ (7 * i)) = ((m * 128 ^ i : Nat) : Int) by rw [pow128]; simp]
  exact wrapU (by omega) (by omega)
theorem idx_ints (b : List UInt8) (i : Nat) : idx (ints b) (i : Int) = (b[i]?).map fun x => (x.toNat : Int) := by
  rw [idx_nat]; simp [ints]
theorem ints_drop (b : List UInt8) (n : Nat) : (ints b).drop n = ints (b.drop n) := by simp [ints, List.map_drop]
theorem ints_take (b : List UInt8) (n : Nat) : (ints b).take n = ints (b.take n) := by simp [ints, List.map_take]
theorem drop_cons {l : List UInt8} {k : Nat} {x : UInt8} (h : l[k]? = some x) : l.drop k = x :: l.drop (k + 1) := by
  obtain ⟨h1, h2⟩ := List.getElem?_eq_some_iff.1 h
  rw [List.drop_eq_getElem_cons h1, h2]
theorem made_over {l : List Int} (h : l.length ≤ 140737488355328) : octet_New l = some (l, 0, 0, ()) := by
  unfold octet_New made
  rw [if_pos (by omega), Option.bind_some]
  simp only [List.length_replicate, Int.toNat_natCast, List.take_length, List.append_eq, List.drop_eq_nil_of_le (show (List.replicate l.length (0 : Int)).length ≤ l.length by simp), List.append_nil]

abbrev Cur := List Int × (Int × (Int × Unit))
/-- what the loop over groups ends with -/
def GrpOk (b : List UInt8) (c : Cur) : Except Int (Nat × Nat) → ((Int × (Int × Cur)) ⊕ (Int × (Int × (Int × Cur)))) → Prop
  | .ok p, r => r = .inl ((p.2 : Int) - 1, ((p.1 : Int), c)) ∧ p.2 ≤ b.length
  | .error e, r => (e = 31 ∧ r = .inr (0, (0, (31, c)))) ∨ (e = 30 ∧ ∃ x, r = .inl ((b.length : Int), (x, c)))
theorem number_loop (b : List UInt8) (hb : b.length ≤ 1048576) (B : Int × (Int × Cur) → Option ((Int × (Int × Cur)) ⊕ ((Int × (Int × Cur)) ⊕ (Int × (Int × (Int × Cur))))))
    (hB : ∀ z1, B z1 = ((Go.Fn.octet_Cursor__Left z1.2.2)).bind fun r2 =>
     bif (decide (z1.1 < r2.1)) then ((Go.Lf.chk (List.length r2.2.1) (Go.IntKind.wrap .i64 (r2.2.2.1 + z1.1)))).bind fun r3 =>
     ((Go.Lf.nth r2.2.1 r3)).bind fun r4 =>
     (bif (!(decide ((9 : Int) < z1.1))) then bif (decide ((z1.1 : Int) = (9 : Int))) then some ((decide ((1 : Int) < (Go.IntKind.wrap .u64 r4))), r2.2)
       else some (false, r2.2)
       else some (true, r2.2)).bind fun r5 =>
     bif r5.1 then some (.inr (.inr ((0 : Int), ((0 : Int), ((31 : Int), r5.2)))))
     else ((Go.Lf.nn (Go.IntKind.wrap .i64 ((7 : Int) * z1.1)) (Go.IntKind.wrap .u64 ((Go.Lf.bits .and .u64 (Go.IntKind.wrap .u64 r4) (127 : Int)) * ((2 : Int) ^ (Min.min (Int.toNat (Go.IntKind.wrap .i64 ((7 : Int) * z1.1))) (64 : Nat))))))).bind fun r6 =>
     bif (decide ((Go.IntKind.wrap .u64 r4) < (128 : Int))) then (bif (decide (((Go.IntKind.wrap .u64 r4) : Int) = (0 : Int))) then some ((decide ((0 : Int) < z1.1)), r5.2)
       else some (false, r5.2)).bind fun r7 =>
     bif r7.1 then some (.inr (.inr ((0 : Int), ((0 : Int), ((31 : Int), r7.2)))))
     else some (.inr (.inl (z1.1, ((Go.Lf.bits .or .u64 z1.2.1 r6), r7.2))))
     else some (.inl ((Go.IntKind.wrap .i64 (z1.1 + (1 : Int))), ((Go.Lf.bits .or .u64 z1.2.1 r6), r5.2)))
     else some (.inr (.inl (z1.1, (z1.2.1, r2.2))))) :
    ∀ (m i acc : Nat), i + m = b.length → acc < 128 ^ i → i ≤ 10 → ∃ r, loopC B ((i : Int), ((acc : Int), (ints b, 0, 0, ()))) = some r ∧ GrpOk b (ints b, 0, 0, ()) (numS (b.drop i) i acc) r := by
  have left : octet_Cursor__Left (ints b, 0, 0, ()) = some ((b.length : Int), (ints b, 0, 0, ())) := by
    unfold octet_Cursor__Left
    simp only [ints_len, Int.sub_zero]
    rw [wrapI (by omega) (by omega)]
  intro m
  induction m with
  | zero =>
    intro i acc hi ha h10
    have hi : i = b.length := by omega
    subst hi
    refine ⟨.inl ((b.length : Int), ((acc : Int), (ints b, 0, 0, ()))), ?_, ?_⟩
    · rw [loopC_step, hB]
      simp only [left, Option.bind_some, Int.lt_irrefl, decide_false, cond_false]
    · rw [List.drop_length]
      exact .inr ⟨rfl, _, rfl⟩
  | succ m ih =>
    intro i acc hi ha h10
    have hlt : i < b.length := by omega
    have hg : b[i]? = some b[i] := List.getElem?_eq_getElem hlt
    have hx := b[i].toNat_lt
    have hnth : nth (ints b) i = some (b[i].toNat : Int) := by
      unfold nth
      simp [ints, hg]
    rw [drop_cons hg]
    have step : B ((i : Int), ((acc : Int), (ints b, 0, 0, ()))) = if 9 < i ∨ (i = 9 ∧ 1 < b[i].toNat) then some (.inr (.inr (0, (0, (31, (ints b, 0, 0, ()))))))
        else if b[i].toNat < 128 then (if b[i].toNat = 0 ∧ 0 < i then some (.inr (.inr (0, (0, (31, (ints b, 0, 0, ())))))) else some (.inr (.inl ((i : Int), (((acc + b[i].toNat * 128 ^ i : Nat) : Int), (ints b, 0, 0, ()))))))
        else some (.inl (((i + 1 : Nat) : Int), (((acc + b[i].toNat % 128 * 128 ^ i : Nat) : Int), (ints b, 0, 0, ())))) := by
      rw [hB]
      have hchk : chk (List.length (ints b)) (IntKind.wrap .i64 (0 + (i : Int))) = some i := by
        rw [Int.zero_add, wrapI (by omega) (by omega)]
        unfold chk
        rw [ints_len, if_pos (by omega)]; rfl
      simp only [left, Option.bind_some, show (i : Int) < (b.length : Int) by omega, decide_true, cond_true, hchk, hnth]
      rw [wrapU (x := (b[i].toNat : Int)) (by omega) (by omega)]
      by_cases h9 : 9 < i
      · have e1 : decide ((9 : Int) < (i : Int)) = true := decide_eq_true (by omega)
        simp only [e1, Bool.not_true, cond_false, Option.bind_some, cond_true, if_pos (show 9 < i ∨ (i = 9 ∧ 1 < b[i].toNat) from .inl h9)]
      · have e1 : decide ((9 : Int) < (i : Int)) = false := decide_eq_false (by omega)
        have e2 : (bif decide ((i : Int) = 9) then (some (decide ((1 : Int) < (b[i].toNat : Int)), (ints b, (0 : Int), (0 : Int), ())) : Option (Bool × Cur)) else some (false, (ints b, 0, 0, ()))) = some (decide (i = 9 ∧ 1 < b[i].toNat), (ints b, 0, 0, ())) := by
          by_cases h : i = 9
          · rw [decide_eq_true (show ((i : Int) = 9) by omega), cond_true]
            congr 2
            rw [decide_eq_decide]; omega
          · rw [decide_eq_false (show ¬ ((i : Int) = 9) by omega), cond_false]
            congr 2
            rw [eq_comm, decide_eq_false_iff_not]; omega
        simp only [e1, Bool.not_false, cond_true, e2, Option.bind_some]
        by_cases h9b : i = 9 ∧ 1 < b[i].toNat
        · rw [decide_eq_true h9b, cond_true, if_pos (.inr h9b)]
        · rw [decide_eq_false h9b, cond_false, if_neg (by omega)]
          have hb1 := grp_lt ha (show i ≤ 9 by omega) h9b
          have hb2 : b[i].toNat % 128 * 128 ^ i < 18446744073709551616 := by omega
          rw [bits_low64 hx, shl_grp hb2 (by omega)]
          have hnn : nn (IntKind.wrap .i64 (7 * (i : Int))) ((b[i].toNat % 128 * 128 ^ i : Nat) : Int) = some ((b[i].toNat % 128 * 128 ^ i : Nat) : Int) := by
            rw [wrapI (by omega) (by omega)]
            unfold nn
            rw [if_neg (by omega)]
          rw [hnn, Option.bind_some, bits_grp ha hb1]
          by_cases h128 : b[i].toNat < 128
          · rw [decide_eq_true (show ((b[i].toNat : Int) < 128) by omega), cond_true, if_pos h128]
            by_cases h0 : b[i].toNat = 0
            · rw [decide_eq_true (show ((b[i].toNat : Int) = 0) by omega), cond_true, Option.bind_some]
              by_cases hi0 : 0 < i
              · rw [decide_eq_true (show ((0 : Int) < (i : Int)) by omega), cond_true, if_pos ⟨h0, hi0⟩]
              · rw [decide_eq_false (show ¬ ((0 : Int) < (i : Int)) by omega), cond_false, if_neg (by omega), Nat.mod_eq_of_lt h128]
            · rw [decide_eq_false (show ¬ ((b[i].toNat : Int) = 0) by omega), cond_false, Option.bind_some, cond_false, if_neg (by omega), Nat.mod_eq_of_lt h128]
          · rw [decide_eq_false (show ¬ ((b[i].toNat : Int) < 128) by omega), cond_false, if_neg h128, wrapS (by omega)]
    rw [loopC_step, step]
    unfold numS
    by_cases h1 : 9 < i ∨ (i = 9 ∧ 1 < b[i].toNat)
    · rw [if_pos h1, if_pos h1]
      exact ⟨_, rfl, .inl ⟨rfl, rfl⟩⟩
    · rw [if_neg h1, if_neg h1]
      by_cases h2 : b[i].toNat < 128
      · rw [if_pos h2, if_pos h2]
        by_cases h3 : b[i].toNat = 0 ∧ 0 < i
        · rw [if_pos h3, if_pos h3]
          exact ⟨_, rfl, .inl ⟨rfl, rfl⟩⟩
        · rw [if_neg h3, if_neg h3]
          refine ⟨_, rfl, ?_, ?_⟩
          · show _ = Sum.inl (((i + 1 : Nat) : Int) - 1, _)
            congr 2
            omega
          · show i + 1 ≤ b.length
            omega
      · rw [if_neg h2, if_neg h2, Option.bind_some]
        exact ih (i + 1) (acc + b[i].toNat % 128 * 128 ^ i) (by omega) (acc_lt ha (Nat.mod_lt _ (by omega))) (by omega)
theorem num_len : ∀ (l : List UInt8) (i acc v k : Nat), numS l i acc = .ok (v, k) → i < k ∧ k ≤ i + l.length
  | l, i, acc, v, k, h => by
    obtain ⟨w, r, _, h2, h3, _⟩ := num_canon l i acc v k h
    have := uint_pos w
    have h4 := congrArg List.length h3
    rw [List.length_append] at h4
    omega
theorem number_eq (b : List UInt8) (hb : b.length ≤ 1048576) : octet_Cursor__number (ints b, 0, 0, ()) = some (match numS b 0 0 with
    | .ok p => ((p.1 : Int), (p.2 : Int), 0, (ints b, 0, 0, ()))
    | .error e => (0, 0, e, (ints b, 0, 0, ()))) := by
  have left : octet_Cursor__Left (ints b, 0, 0, ()) = some ((b.length : Int), (ints b, 0, 0, ())) := by
    unfold octet_Cursor__Left
    simp only [ints_len, Int.sub_zero]
    rw [wrapI (by omega) (by omega)]
  unfold octet_Cursor__number
  obtain ⟨r, h1, h2⟩ := number_loop b hb _ (fun _ => rfl) b.length 0 0 (by omega) (by simp) (by omega)
  rw [List.drop_zero] at h2
  have h1 : loopC _ ((0 : Int), ((0 : Int), ((ints b, 0, 0, ()) : Cur))) = some r := h1
  rw [h1, Option.bind_some]
  generalize hn : numS b 0 0 = q at h2
  cases q with
  | ok p =>
    obtain ⟨rfl, h3⟩ := h2
    have h4 := num_len b 0 0 p.1 p.2 hn
    simp only [onSum, left, Option.bind_some]
    rw [decide_eq_false (by omega), cond_false, wrapI (by omega) (by omega), Int.sub_add_cancel]
  | error e =>
    rcases h2 with ⟨rfl, rfl⟩ | ⟨rfl, x, rfl⟩
    · simp only [onSum]
    · simp only [onSum, left, Option.bind_some]
      rw [decide_eq_true (by omega), cond_true]

theorem finish_loop (w : List UInt8) (a long k n : Int) (z0 : Ins) (hw : w.length ≤ 1048576) (B : Int × (Ins × Ins) → Option ((Int × (Ins × Ins)) ⊕ (Ins × Ins)))
    (hB : ∀ z3, B z3 = bif (decide (z3.1 < (((List.length (ints w)) : Nat) : Int))) then ((Go.Lf.idx (ints w) z3.1)).bind fun r4 =>
       ((Go.Lf.app (8 : Nat) z3.2.1.2.2.2.2.1 ((Go.IntKind.wrap .i64 r4) :: ([] : List (Int))))).bind fun r5 =>
       some (.inl ((Go.IntKind.wrap .i64 (z3.1 + (1 : Int))), ((z3.2.1.1, (z3.2.1.2.1, (z3.2.1.2.2.1, (z3.2.1.2.2.2.1, (r5, z3.2.1.2.2.2.2.2))))), z3.2.2)))
       else some (.inr (z3.2.2, z3.2.1))) :
    loopC B ((0 : Int), ((a, long, k, n, [], ()), z0)) = some (z0, (a, long, k, n, ints w, ())) := by
  have key : ∀ m i : Nat, i + m = w.length → loopC B ((i : Int), ((a, long, k, n, ints (w.take i), ()), z0)) = some (z0, (a, long, k, n, ints w, ())) := by
    intro m
    induction m with
    | zero =>
      intro i hi
      have : i = w.length := by omega
      subst this
      rw [loopC_step, hB]
      simp only [ints_len, Int.lt_irrefl, decide_false, cond_false, Option.bind_some, List.take_length]
    | succ m ih =>
      intro i hi
      have hlt : i < w.length := by omega
      have hg : w[i]? = some w[i] := List.getElem?_eq_getElem hlt
      have hx := w[i].toNat_lt
      rw [loopC_step, hB]
      simp only [ints_len, show (i : Int) < (w.length : Int) by omega, decide_true, cond_true, idx_ints, hg, Option.map_some, Option.bind_some]
      rw [app_of (by simp only [ints_len, List.length_take, List.length_cons, List.length_nil]; omega), Option.bind_some, wrapS (by omega), wrapI (by omega) (by omega)]
      have : ints (w.take i) ++ [(w[i].toNat : Int)] = ints (w.take (i + 1)) := by
        rw [List.take_add_one, hg]
        exact (List.map_append (l₁ := w.take i) (l₂ := [w[i]]) (f := fun b : UInt8 => (b.toNat : Int))).symm
      rw [this]
      exact ih (i + 1) (by omega)
  exact key w.length 0 (by omega)
theorem finish_eq (b : List UInt8) (hb : b.length ≤ 1048576) (a long k n : Int) (ha : 0 ≤ a) (hl : 0 ≤ long) (hal : a + long ≤ b.length) (hn : 0 ≤ n) (hn2 : n ≤ 2147483647) :
    code_finish (ints b) (a, long, k, 0, [], ()) n = some (finS b a long k n) := by
  unfold code_finish finS
  by_cases h1 : k = 1
  · by_cases h2 : (16383 : Int) < n
    · simp only [h1, decide_true, cond_true, h2, if_true, Option.bind_some, onSum]; rfl
    · simp only [h1, decide_true, cond_true, h2, decide_false, cond_false, if_true, if_false, Option.bind_some, onSum, wrapI (show -9223372036854775808 ≤ n + 1 by omega) (by omega)]
  · simp only [h1, decide_false, cond_false, if_false]
    by_cases h2 : k = 2 ∨ k = 3 ∨ k = 4 ∨ k = 10
    · rcases h2 with h2 | h2 | h2 | h2 <;> subst h2 <;> simp [onSum]
    · have e2 : ¬ k = 2 := by omega
      have e3 : ¬ k = 3 := by omega
      have e4 : ¬ k = 4 := by omega
      have e10 : ¬ k = 10 := by omega
      simp only [e2, e3, e4, e10, decide_false, cond_false, Option.bind_some, or_self, if_false]
      by_cases h8 : k = 8
      · simp only [h8, decide_true, cond_true, if_true, Option.bind_some, onSum, wrapI (show -9223372036854775808 ≤ n - 1 by omega) (by omega)]
      · simp only [h8, decide_false, cond_false, if_false]
        by_cases h12 : k = 12
        · simp only [h12, decide_true, cond_true, if_true]
          by_cases h16 : (16 : Int) ≤ n
          · simp only [h16, decide_true, cond_true, if_true, Option.bind_some, onSum]; rfl
          · simp only [h16, decide_false, cond_false, if_false]
            rw [wrapI (x := a + long) (by omega) (by omega), ints_len, wrapI (x := (b.length : Int) - (a + long)) (by omega) (by omega), wrapI (x := n + 1) (by omega) (by omega), wrapI (x := a + long + n) (by omega) (by omega), wrapI (x := a + long + n + 1) (by omega) (by omega)]
            by_cases hlen : (b.length : Int) - (a + long) < n + 1
            · simp only [hlen, decide_true, cond_true, if_true, Option.bind_some, onSum]; rfl
            · simp only [hlen, decide_false, cond_false, if_false]
              have hsub : sub (ints b) (a + long) (a + long + n + 1) = some (ints ((b.drop (a + long).toNat).take (n + 1).toNat)) := by
                unfold sub
                rw [ints_len, if_pos (by omega), ints_drop, ints_take]
                congr 3
                omega
              rw [hsub, Option.bind_some, finish_loop _ a long 12 0 _ (by rw [List.length_take, List.length_drop]; omega) _ (fun _ => rfl)]
              simp only [Option.bind_some, onSum]
              rw [wrapI (x := long + (n + 1)) (by omega) (by omega)]
        · simp only [h12, decide_false, cond_false, if_false]
          by_cases h0 : n = 0
          · simp only [h0, ne_eq, not_true_eq_false, decide_false, cond_false, if_false, Option.bind_some, onSum]
          · simp only [h0, ne_eq, not_false_eq_true, decide_true, cond_true, if_true, Option.bind_some, onSum]; rfl
theorem next_eq (b : List UInt8) (hb : b.length ≤ 1048576) (a : Int) : code_Next (ints b) a = some (nextS b a) := by
  unfold code_Next nextS
  by_cases hr : a < 0 ∨ (b.length : Int) ≤ a
  · rw [if_pos hr]
    by_cases h0 : a < 0
    · simp only [h0, decide_true, Bool.not_true, cond_false, Option.bind_some, cond_true]; rfl
    · have h1 : (b.length : Int) ≤ a := by omega
      simp only [h0, decide_false, Bool.not_false, cond_true, Option.bind_some, ints_len, h1, decide_true]; rfl
  · rw [if_neg hr]
    have h0 : ¬ a < 0 := by omega
    have h1 : ¬ (b.length : Int) ≤ a := by omega
    obtain ⟨k, rfl⟩ : ∃ k : Nat, a = (k : Int) := ⟨a.toNat, by omega⟩
    have hlt : k < b.length := by omega
    have hg : b[k]? = some b[k] := List.getElem?_eq_getElem hlt
    have hx := b[k].toNat_lt
    have hhd : hd b k = b[k].toNat := by unfold hd; rw [hg]; rfl
    simp only [h0, decide_false, Bool.not_false, cond_true, Option.bind_some, ints_len, h1, cond_false, idx_ints, hg, Option.map_some, Int.toNat_natCast, hhd]
    have hdiv : nn (4 : Int) (Int.fdiv (b[k].toNat : Int) ((2 : Int) ^ (Min.min (Int.toNat (4 : Int)) (8 : Nat)))) = some ((b[k].toNat / 16 : Nat) : Int) := by
      unfold nn
      rw [if_neg (by omega)]
      congr 1
      rw [show (2 : Int) ^ (Min.min (Int.toNat (4 : Int)) (8 : Nat)) = 16 from rfl, Int.fdiv_eq_ediv_of_nonneg _ (by omega)]
      omega
    rw [hdiv, Option.bind_some, wrapI (x := ((b[k].toNat / 16 : Nat) : Int)) (by omega) (by omega), bits_low8 hx, wrapI (x := ((b[k].toNat % 16 : Nat) : Int)) (by omega) (by omega)]
    by_cases hk0 : b[k].toNat / 16 = 0
    · rw [decide_eq_true (by omega), cond_true, if_pos hk0]; rfl
    · rw [decide_eq_false (by omega), cond_false, if_neg hk0]
      by_cases h15 : b[k].toNat % 16 = 15
      · rw [decide_eq_true (by omega), cond_true, if_pos h15]
        have hsub : sub (ints b) (IntKind.wrap .i64 ((k : Int) + 1)) ((b.length : Nat) : Int) = some (ints (b.drop (k + 1))) := by
          rw [wrapS (by omega), sub_nat (by omega) (by rw [ints_len]; exact Nat.le_refl _), ints_drop, ints_take, List.take_of_length_le (by rw [List.length_drop]; exact Nat.le_refl _)]
        have hdl : (b.drop (k + 1)).length = b.length - (k + 1) := List.length_drop
        have huint : octet_Cursor__Uint (ints (b.drop (k + 1)), 0, 0, ()) = some (match numS (b.drop (k + 1)) 0 0 with
            | .ok p => ((p.1 : Int), (ints (b.drop (k + 1)), (p.2 : Int), 0, ()))
            | .error e => (0, (ints (b.drop (k + 1)), 0, e, ()))) := by
          unfold octet_Cursor__Uint octet_Cursor__fine octet_Cursor__Err
          simp only [Option.bind_some, decide_true, Bool.not_true, cond_false, number_eq _ (show (b.drop (k + 1)).length ≤ 1048576 by omega)]
          cases hn : numS (b.drop (k + 1)) 0 0 with
          | ok p =>
            have h4 := num_len _ 0 0 p.1 p.2 hn
            simp only [ne_eq, not_true_eq_false, decide_false, cond_false, Int.zero_add]
            rw [wrapI (by omega) (by omega)]
          | error e =>
            have he : e ≠ 0 := by rcases num_err _ _ _ _ hn with h | h <;> omega
            simp only [ne_eq, he, not_false_eq_true, decide_true, cond_true]
            unfold octet_Cursor__Fail
            simp
        rw [hsub, Option.bind_some, made_over (by rw [ints_len]; omega), Option.bind_some, huint, Option.bind_some]
        unfold octet_Cursor__Err octet_Cursor__At
        cases hn : numS (b.drop (k + 1)) 0 0 with
        | ok p =>
          have h4 := num_len _ 0 0 p.1 p.2 hn
          simp only [Option.bind_some, ne_eq, not_true_eq_false, decide_false, cond_false]
          by_cases hbig : (2147483632 : Int) < (p.1 : Int)
          · have hbig' : 2147483632 < p.1 := by omega
            simp only [hbig, decide_true, cond_true, Option.bind_some, onSum, if_pos hbig']; rfl
          · have hbig' : ¬ 2147483632 < p.1 := by omega
            simp only [hbig, decide_false, cond_false, Option.bind_some, onSum, if_neg hbig']
            rw [wrapI (x := (p.1 : Int)) (by omega) (by omega), wrapI (x := (p.1 : Int) + 15) (by omega) (by omega), wrapI (x := 1 + (p.2 : Int)) (by omega) (by omega)]
            rw [finish_eq b hb _ _ _ _ (by omega) (by omega) (by omega) (by omega) (by omega)]
            rfl
        | error e =>
          have he : e ≠ 0 := by rcases num_err _ _ _ _ hn with h | h <;> omega
          simp only [Option.bind_some, ne_eq, he, not_false_eq_true, decide_true, cond_true, onSum]; rfl
      · rw [decide_eq_false (by omega), cond_false, if_neg h15]
        simp only [Option.bind_some, onSum]
        rw [finish_eq b hb _ _ _ _ (by omega) (by omega) (by omega) (by omega) (by omega)]
        rfl
end Go.Fn
/- Chapter 16, plainly: the document's Next. -/
namespace Go.Fn
open Go Go.Lf

/-- so many bytes begin with the sign that more follow -/
def lead : List UInt8 → Nat → Nat
  | [], z => z
  | x :: r, z => if 128 ≤ x.toNat ∧ z < 10 then lead r (z + 1) else z
def gv : List UInt8 → Nat
  | [] => 0
  | x :: r => x.toNat % 128 + 128 * gv r
theorem gv_lt : ∀ l : List UInt8, gv l < 128 ^ l.length
  | [] => by simp [gv]
  | x :: r => by
    have := gv_lt r
    rw [gv, List.length_cons, Nat.pow_succ]
    omega
theorem lead_spec : ∀ (l : List UInt8) (i acc : Nat), i ≤ 9 →
    (lead l i = 10 ∧ numS l i acc = .error 31) ∨ (lead l i ≤ 9 ∧ i ≤ lead l i ∧ l.length = lead l i - i ∧ numS l i acc = .error 30) ∨
    (lead l i ≤ 9 ∧ i ≤ lead l i ∧ ∃ x, l[lead l i - i]? = some x ∧ x.toNat < 128 ∧ numS l i acc = if (0 < lead l i ∧ x.toNat = 0) ∨ (lead l i = 9 ∧ 1 < x.toNat) then .error 31 else .ok (acc + gv (l.take (lead l i - i + 1)) * 128 ^ i, lead l i + 1))
  | [], i, acc, hi => .inr (.inl ⟨hi, Nat.le_refl _, by simp [lead], rfl⟩)
  | x :: r, i, acc, hi => by
    have hx := x.toNat_lt
    unfold lead numS
    by_cases h : 128 ≤ x.toNat
    · rw [if_pos (show 128 ≤ x.toNat ∧ i < 10 from ⟨h, by omega⟩)]
      by_cases h9 : i = 9
      · subst h9
        rw [if_pos (by omega)]
        refine .inl ⟨?_, rfl⟩
        cases r with
        | nil => rfl
        | cons y q => unfold lead; rw [if_neg (by omega)]
      · rw [if_neg (by omega), if_neg (by omega)]
        rcases lead_spec r (i + 1) (acc + x.toNat % 128 * 128 ^ i) (by omega) with ⟨h1, h2⟩ | ⟨h1, h2, h3, h4⟩ | ⟨h1, h2, y, h3, h4, h5⟩
        · exact .inl ⟨h1, h2⟩
        · exact .inr (.inl ⟨h1, by omega, by rw [List.length_cons, h3]; omega, h4⟩)
        · refine .inr (.inr ⟨h1, by omega, y, ?_, h4, ?_⟩)
          · rw [show lead r (i + 1) - i = (lead r (i + 1) - (i + 1)) + 1 by omega, List.getElem?_cons_succ]; exact h3
          · rw [h5]
            split
            · rfl
            · congr 2
              rw [show lead r (i + 1) - i + 1 = (lead r (i + 1) - (i + 1) + 1) + 1 by omega, List.take_succ_cons, gv, Nat.pow_succ, Nat.add_mul, Nat.add_assoc]
              congr 2
              rw [Nat.mul_comm (128 ^ i) 128, ← Nat.mul_assoc, Nat.mul_comm 128]
    · rw [if_neg (by omega)]
      refine .inr (.inr ⟨hi, Nat.le_refl _, x, by simp, by omega, ?_⟩)
      rw [Nat.sub_self]
      by_cases h9 : 9 < i ∨ (i = 9 ∧ 1 < x.toNat)
      · rw [if_pos h9, if_pos (by omega)]
      · rw [if_neg h9, if_pos (show x.toNat < 128 by omega)]
        by_cases h0 : x.toNat = 0 ∧ 0 < i
        · rw [if_pos h0, if_pos (by omega)]
        · rw [if_neg h0, if_neg (by omega)]
          congr 2
          rw [Nat.zero_add, List.take_succ_cons, List.take_zero, gv, gv, Nat.mul_zero, Nat.add_zero, Nat.mod_eq_of_lt (by omega)]
theorem lead_le : ∀ (l : List UInt8) (i : Nat), i ≤ 10 → lead l i ≤ 10 ∧ i ≤ lead l i
  | [], i, h => ⟨h, Nat.le_refl _⟩
  | x :: r, i, h => by
    unfold lead
    split
    · rename_i h1
      have := lead_le r (i + 1) (by omega)
      omega
    · omega
theorem lead_loop (b : List UInt8) (a : Nat) (hb : b.length ≤ 1048576) (ha : a ≤ b.length) (B : Int → Option (Int ⊕ Int))
    (hB : ∀ z1, B z1 = (bif (decide ((Go.IntKind.wrap .i64 ((a : Int) + z1)) < (((List.length (ints b)) : Nat) : Int))) then ((Go.Lf.idx (ints b) (Go.IntKind.wrap .i64 ((a : Int) + z1)))).bind fun r2 =>
       bif (decide ((128 : Int) ≤ r2)) then some (decide (z1 < (10 : Int)))
       else some false
       else some false).bind fun r3 =>
     bif r3 then some (.inl (Go.IntKind.wrap .i64 (z1 + (1 : Int))))
     else some (.inr z1)) : ∀ (m z : Nat), a + z + m = b.length → z ≤ 10 → loopC B (z : Int) = some ((lead (b.drop (a + z)) z : Nat) : Int) := by
  intro m
  induction m with
  | zero =>
    intro z hz h10
    rw [loopC_step, hB, wrapI (by omega) (by omega), ints_len, decide_eq_false (by omega), cond_false, Option.bind_some, cond_false, Option.bind_some]
    rw [List.drop_eq_nil_of_le (by omega)]; rfl
  | succ m ih =>
    intro z hz h10
    have hlt : a + z < b.length := by omega
    have hg : b[a + z]? = some b[a + z] := List.getElem?_eq_getElem hlt
    have hx := b[a + z].toNat_lt
    rw [loopC_step, hB, wrapI (by omega) (by omega), ints_len, decide_eq_true (by omega), cond_true, show ((a : Int) + (z : Int)) = ((a + z : Nat) : Int) by omega, idx_ints, hg, Option.map_some, Option.bind_some, drop_cons hg]
    unfold lead
    by_cases h : 128 ≤ b[a + z].toNat
    · rw [decide_eq_true (by omega), cond_true, Option.bind_some]
      by_cases hz10 : z < 10
      · rw [decide_eq_true (by omega), cond_true, Option.bind_some, if_pos ⟨h, hz10⟩, wrapS (by omega)]
        have := ih (z + 1) (by omega) (by omega)
        rw [show a + (z + 1) = a + z + 1 by omega] at this
        exact this
      · rw [decide_eq_false (by omega), cond_false, Option.bind_some, if_neg (by omega)]
    · rw [decide_eq_false (by omega), cond_false, Option.bind_some, cond_false, Option.bind_some, if_neg (by omega)]
/-- the groups' value stays below what 64 bits hold -/
theorem gv_bd {l : List UInt8} {n k : Nat} {x : UInt8} (hx : l[n]? = some x) (h9 : n ≤ 9) (hn : n = 9 → x.toNat ≤ 1) (hk : k ≤ n) : gv ((l.take (n + 1)).drop k) < 18446744073709551616 := by
  have hlt := (List.getElem?_eq_some_iff.1 hx).1
  have key : ∀ (m k : Nat), k + m = n → gv ((l.take (n + 1)).drop k) ≤ (x.toNat % 128 + 1) * 128 ^ m - 1 := by
    intro m
    induction m with
    | zero =>
      intro k hk
      have : k = n := by omega
      subst this
      have hg : (l.take (k + 1))[k]? = some x := by rw [List.getElem?_take_of_lt (by omega)]; exact hx
      rw [drop_cons hg, List.drop_eq_nil_of_le (by rw [List.length_take]; omega), gv, gv]
      omega
    | succ m ih =>
      intro k hk
      have hg : (l.take (n + 1))[k]? = some l[k] := by rw [List.getElem?_take_of_lt (by omega)]; exact List.getElem?_eq_getElem (by omega)
      have := ih (k + 1) (by omega)
      have hp : 0 < 128 ^ m := Nat.pow_pos (by omega)
      have h1 : 0 < (x.toNat % 128 + 1) * 128 ^ m := Nat.mul_pos (by omega) hp
      rw [drop_cons hg, gv, Nat.pow_succ, ← Nat.mul_assoc]
      generalize (x.toNat % 128 + 1) * 128 ^ m = P at *
      omega
  have h1 := key (n - k) k (by omega)
  have h2 : (x.toNat % 128 + 1) * 128 ^ (n - k) ≤ 18446744073709551616 := by
    by_cases h : n = 9
    · have hx1 := hn h
      have h3 : (128 : Nat) ^ (n - k) ≤ 128 ^ 9 := Nat.pow_le_pow_right (by omega) (by omega)
      have h4 : (x.toNat % 128 + 1) * 128 ^ (n - k) ≤ 2 * 128 ^ 9 := Nat.mul_le_mul (by omega) h3
      omega
    · have h3 : (128 : Nat) ^ (n - k) ≤ 128 ^ 8 := Nat.pow_le_pow_right (by omega) (by omega)
      have h4 : (x.toNat % 128 + 1) * 128 ^ (n - k) ≤ 128 * 128 ^ 8 := Nat.mul_le_mul (by omega) h3
      omega
  have h3 : 0 < (x.toNat % 128 + 1) * 128 ^ (n - k) := Nat.mul_pos (by omega) (Nat.pow_pos (by omega))
  omega
theorem take_loop (b : List UInt8) (a n : Nat) (x : UInt8) (hb : b.length ≤ 1048576) (hx : (b.drop a)[n]? = some x) (h9 : n ≤ 9) (hn : n = 9 → x.toNat ≤ 1) (B : Int × Int → Option ((Int × Int) ⊕ Int))
    (hB : ∀ z9, B z9 = bif (decide ((0 : Int) ≤ z9.1)) then ((Go.Lf.idx (ints b) (Go.IntKind.wrap .i64 ((a : Int) + z9.1)))).bind fun r10 =>
     ((Go.Lf.nz (128 : Int) (Int.tmod r10 (128 : Int)))).bind fun r11 =>
     some (.inl ((Go.IntKind.wrap .i64 (z9.1 - (1 : Int))), (Go.IntKind.wrap .u64 ((Go.IntKind.wrap .u64 (z9.2 * (128 : Int))) + (Go.IntKind.wrap .u64 r11)))))
     else some (.inr z9.2)) : ∀ k, k ≤ n + 1 → loopC B ((k : Int) - 1, ((gv (((b.drop a).take (n + 1)).drop k) : Nat) : Int)) = some ((gv ((b.drop a).take (n + 1)) : Nat) : Int) := by
  intro k
  induction k with
  | zero =>
    intro _
    rw [loopC_step, hB, decide_eq_false (by omega), cond_false, Option.bind_some]; rfl
  | succ k ih =>
    intro hk
    have hlt := (List.getElem?_eq_some_iff.1 hx).1
    rw [List.length_drop] at hlt
    have hlt2 : a + k < b.length := by omega
    have hg : b[a + k]? = some b[a + k] := List.getElem?_eq_getElem hlt2
    have hg2 : ((b.drop a).take (n + 1))[k]? = some b[a + k] := by rw [List.getElem?_take_of_lt (by omega), List.getElem?_drop]; exact hg
    have hy := b[a + k].toNat_lt
    have hbd := gv_bd hx h9 hn (show k ≤ n by omega)
    have hc := drop_cons hg2
    rw [hc, gv] at hbd
    have ih := ih (by omega)
    rw [hc, gv] at ih
    rw [loopC_step, hB, show (((k + 1 : Nat) : Int) - 1) = (k : Int) by omega, decide_eq_true (by omega), cond_true, wrapI (by omega) (by omega), show ((a : Int) + (k : Int)) = ((a + k : Nat) : Int) by omega, idx_ints, hg, Option.map_some, Option.bind_some]
    have htm : Int.tmod (b[a + k].toNat : Int) 128 = ((b[a + k].toNat % 128 : Nat) : Int) := by rw [Int.tmod_eq_emod_of_nonneg (by omega)]; omega
    unfold nz
    rw [if_neg (by omega), htm, Option.bind_some, Option.bind_some, wrapI (by omega) (by omega), wrapU (x := ((b[a + k].toNat % 128 : Nat) : Int)) (by omega) (by omega)]
    rw [wrapU (x := ((gv (((b.drop a).take (n + 1)).drop (k + 1)) : Nat) : Int) * 128) (by omega) (by omega), wrapU (by omega) (by omega)]
    rw [← ih]
    show loopC B ((k : Int) - 1, _) = loopC B ((k : Int) - 1, _)
    congr 2
    omega
theorem take_eq (b : List UInt8) (a : Nat) (hb : b.length ≤ 1048576) (ha : a ≤ b.length) : folioref16_Take (ints b) a = some (match numS (b.drop a) 0 0 with
    | .ok p => ((p.1 : Int), ((p.2 : Int), 0))
    | .error e => (0, (0, e))) := by
  unfold folioref16_Take
  have L := lead_loop b a hb ha _ (fun _ => rfl) (b.length - a) 0 (by omega) (by omega)
  have L : loopC _ (0 : Int) = _ := L
  rw [L, Option.bind_some]
  simp only [Nat.add_zero]
  have hle := lead_le (b.drop a) 0 (by omega)
  have hsp := lead_spec (b.drop a) 0 0 (by omega)
  generalize lead (b.drop a) 0 = n at *
  have hw : IntKind.wrap .i64 ((a : Int) + (n : Int)) = (a : Int) + n := wrapI (by omega) (by omega)
  simp only [hw, ints_len]
  rcases hsp with ⟨h1, h2⟩ | ⟨h1, h2, h3, h4⟩ | ⟨h1, h2, x, h3, h4, h5⟩
  · subst h1
    rw [h2]; rfl
  · rw [List.length_drop] at h3
    rw [decide_eq_false (by omega), cond_false, decide_eq_true (by omega), cond_true, h4]
  · rw [Nat.sub_zero] at h3 h5
    have hlt := (List.getElem?_eq_some_iff.1 h3).1
    rw [List.length_drop] at hlt
    have hg : b[a + n]? = some x := by rw [← List.getElem?_drop]; exact h3
    have hidx : idx (ints b) ((a : Int) + (n : Int)) = some (x.toNat : Int) := by
      rw [show ((a : Int) + (n : Int)) = ((a + n : Nat) : Int) by omega, idx_ints, hg]; rfl
    rw [decide_eq_false (by omega), cond_false, decide_eq_false (by omega), cond_false]
    simp only [hidx, Option.bind_some]
    have hc : (bif decide ((0 : Int) < (n : Int)) then bif !decide ((x.toNat : Int) = 0) then bif decide ((n : Int) = 9) then some (decide ((1 : Int) < (x.toNat : Int))) else some false else some true
        else bif decide ((n : Int) = 9) then some (decide ((1 : Int) < (x.toNat : Int))) else some false) = some (decide ((0 < n ∧ x.toNat = 0) ∨ (n = 9 ∧ 1 < x.toNat))) := by
      by_cases c1 : 0 < n
      · rw [decide_eq_true (by omega), cond_true]
        by_cases c2 : x.toNat = 0
        · rw [decide_eq_true (by omega), Bool.not_true, cond_false, decide_eq_true (.inl ⟨c1, c2⟩)]
        · rw [decide_eq_false (by omega), Bool.not_false, cond_true]
          by_cases c3 : n = 9
          · rw [decide_eq_true (by omega), cond_true]
            congr 1
            rw [decide_eq_decide]; omega
          · rw [decide_eq_false (by omega), cond_false, decide_eq_false (by omega)]
      · rw [decide_eq_false (by omega), cond_false, decide_eq_false (by omega), cond_false, decide_eq_false (by omega)]
    rw [hc, Option.bind_some, h5]
    by_cases hbad : (0 < n ∧ x.toNat = 0) ∨ (n = 9 ∧ 1 < x.toNat)
    · rw [decide_eq_true hbad, cond_true, if_pos hbad]
    · rw [decide_eq_false hbad, cond_false, if_neg hbad]
      have T := take_loop b a n x hb h3 h1 (by omega) _ (fun _ => rfl) (n + 1) (Nat.le_refl _)
      rw [List.drop_eq_nil_of_le (by rw [List.length_take]; omega), show (((n + 1 : Nat) : Int) - 1) = (n : Int) by omega] at T
      have T : loopC _ ((n : Int), (0 : Int)) = _ := T
      rw [T, Option.bind_some, wrapS (by omega)]
      simp only [Nat.zero_add, Nat.pow_zero, Nat.mul_one]

theorem rnext_loop (b : List UInt8) (s n : Nat) (a long k m : Int) (z0 : Ins) (hb : b.length ≤ 1048576) (hs : s + n + 1 ≤ b.length) (a5 : Int) (ha5 : a5 = (s : Int)) (n5 : Int) (hn5 : n5 = (n : Int)) (B : Int × (Ins × Ins) → Option ((Int × (Ins × Ins)) ⊕ (Ins × Ins)))
    (hB : ∀ z11, B z11 = bif (decide (z11.1 ≤ n5)) then ((Go.Lf.idx (ints b) (Go.IntKind.wrap .i64 (a5 + z11.1)))).bind fun r12 =>
       ((Go.Lf.app (8 : Nat) z11.2.1.2.2.2.2.1 ((Go.IntKind.wrap .i64 r12) :: ([] : List (Int))))).bind fun r13 =>
       some (.inl ((Go.IntKind.wrap .i64 (z11.1 + (1 : Int))), ((z11.2.1.1, (z11.2.1.2.1, (z11.2.1.2.2.1, (z11.2.1.2.2.2.1, (r13, z11.2.1.2.2.2.2.2))))), z11.2.2)))
       else some (.inr (z11.2.2, z11.2.1))) :
    loopC B ((0 : Int), ((a, long, k, m, [], ()), z0)) = some (z0, (a, long, k, m, ints ((b.drop s).take (n + 1)), ())) := by
  subst ha5 hn5
  have key : ∀ q i : Nat, i + q = n + 1 → loopC B ((i : Int), ((a, long, k, m, ints ((b.drop s).take i), ()), z0)) = some (z0, (a, long, k, m, ints ((b.drop s).take (n + 1)), ())) := by
    intro q
    induction q with
    | zero =>
      intro i hi
      have : i = n + 1 := by omega
      subst this
      rw [loopC_step, hB]
      simp only [show ¬ (((n + 1 : Nat) : Int) ≤ (n : Int)) by omega, decide_false, cond_false, Option.bind_some]
    | succ q ih =>
      intro i hi
      have hlt : s + i < b.length := by omega
      have hg : b[s + i]? = some b[s + i] := List.getElem?_eq_getElem hlt
      have hx := b[s + i].toNat_lt
      rw [loopC_step, hB]
      simp only [show (i : Int) ≤ (n : Int) by omega, decide_true, cond_true]
      rw [wrapI (x := (s : Int) + (i : Int)) (by omega) (by omega), show ((s : Int) + (i : Int)) = ((s + i : Nat) : Int) by omega, idx_ints, hg, Option.map_some, Option.bind_some]
      rw [app_of (by simp only [ints_len, List.length_take, List.length_drop, List.length_cons, List.length_nil]; omega), Option.bind_some, wrapS (by omega), wrapI (by omega) (by omega), Option.bind_some]
      have : ints ((b.drop s).take i) ++ [(b[s + i].toNat : Int)] = ints ((b.drop s).take (i + 1)) := by
        rw [List.take_add_one, List.getElem?_drop, hg]
        exact (List.map_append (l₁ := (b.drop s).take i) (l₂ := [b[s + i]]) (f := fun b : UInt8 => (b.toNat : Int))).symm
      rw [this]
      exact ih (i + 1) (by omega)
  exact key (n + 1) 0 (by omega)
theorem rnext_eq (b : List UInt8) (hb : b.length ≤ 1048576) (a : Int) : folioref16_Next (ints b) a = some (nextS b a) := by
  unfold folioref16_Next nextS
  by_cases hr : a < 0 ∨ (b.length : Int) ≤ a
  · rw [if_pos hr]
    by_cases h0 : a < 0
    · simp only [h0, decide_true, Bool.not_true, cond_false, Option.bind_some, cond_true]; rfl
    · have h1 : (b.length : Int) ≤ a := by omega
      simp only [h0, decide_false, Bool.not_false, cond_true, Option.bind_some, ints_len, h1, decide_true]; rfl
  · rw [if_neg hr]
    have h0 : ¬ a < 0 := by omega
    have h1 : ¬ (b.length : Int) ≤ a := by omega
    obtain ⟨k, rfl⟩ : ∃ k : Nat, a = (k : Int) := ⟨a.toNat, by omega⟩
    have hlt : k < b.length := by omega
    have hg : b[k]? = some b[k] := List.getElem?_eq_getElem hlt
    have hx := b[k].toNat_lt
    have hhd : hd b k = b[k].toNat := by unfold hd; rw [hg]; rfl
    simp only [h0, decide_false, Bool.not_false, cond_true, Option.bind_some, ints_len, h1, cond_false, idx_ints, hg, Option.map_some, Int.toNat_natCast, hhd]
    have hdiv : nz (16 : Int) (IntKind.wrap .u8 (Int.tdiv (b[k].toNat : Int) 16)) = some ((b[k].toNat / 16 : Nat) : Int) := by
      unfold nz
      rw [if_neg (by omega), Int.tdiv_eq_ediv_of_nonneg (by omega), show ((b[k].toNat : Int) / 16) = ((b[k].toNat / 16 : Nat) : Int) by omega, wrapB (by omega) (by omega)]
    have hmod : nz (16 : Int) (Int.tmod (b[k].toNat : Int) 16) = some ((b[k].toNat % 16 : Nat) : Int) := by
      unfold nz
      rw [if_neg (by omega), Int.tmod_eq_emod_of_nonneg (by omega)]
      congr 1
    rw [hdiv, Option.bind_some, hmod, Option.bind_some, wrapI (x := ((b[k].toNat / 16 : Nat) : Int)) (by omega) (by omega), wrapU (x := ((b[k].toNat % 16 : Nat) : Int)) (by omega) (by omega)]
    generalize hK : (b[k].toNat / 16 : Nat) = K
    by_cases hk0 : K = 0
    · rw [decide_eq_true (by omega), cond_true, if_pos hk0]; rfl
    · rw [decide_eq_false (by omega), cond_false, if_neg hk0]
      -- what goes on behind the operand
      have rest : ∀ (n size : Nat), n ≤ 2147483647 → k + size ≤ b.length → size ≤ 20 →
          ((bif decide ((K : Int) = 1) then bif decide ((16383 : Int) < (n : Int)) then some (.inl ((161 : Int), ((0 : Int), ((0 : Int), ((0 : Int), ((0 : Int), (([] : List (Int)), ())))))))
   else some (.inr ((((0 : Int), ((0 : Int), ((0 : Int), ((0 : Int), (([] : List (Int)), ()))))) : Ins), ((k : Int), ((size : Int), ((K : Int), ((Go.IntKind.wrap .i64 ((Go.IntKind.wrap .i64 (n : Int)) + (1 : Int))), (([] : List (Int)), ())))))))
   else (bif (decide ((K : Int) = (2 : Int))) then some ((decide ((K : Int) = (2 : Int))), ((((0 : Int), ((0 : Int), ((0 : Int), ((0 : Int), (([] : List (Int)), ()))))) : Ins), ((((k : Int), ((size : Int), ((K : Int), ((0 : Int), (([] : List (Int)), ()))))) : Ins))))
     else bif (decide ((K : Int) = (3 : Int))) then some ((decide ((K : Int) = (3 : Int))), ((((0 : Int), ((0 : Int), ((0 : Int), ((0 : Int), (([] : List (Int)), ()))))) : Ins), ((k : Int), ((size : Int), ((K : Int), ((0 : Int), (([] : List (Int)), ())))))))
     else bif (decide ((K : Int) = (4 : Int))) then some ((decide ((K : Int) = (4 : Int))), ((((0 : Int), ((0 : Int), ((0 : Int), ((0 : Int), (([] : List (Int)), ()))))) : Ins), ((k : Int), ((size : Int), ((K : Int), ((0 : Int), (([] : List (Int)), ())))))))
     else some ((decide ((K : Int) = (10 : Int))), ((((0 : Int), ((0 : Int), ((0 : Int), ((0 : Int), (([] : List (Int)), ()))))) : Ins), ((k : Int), ((size : Int), ((K : Int), ((0 : Int), (([] : List (Int)), ())))))))).bind fun r10 =>
   bif r10.1 then some (.inr (r10.2.1, (r10.2.2.1, (r10.2.2.2.1, (r10.2.2.2.2.1, ((Go.IntKind.wrap .i64 (n : Int)), r10.2.2.2.2.2.2))))))
   else bif (decide ((K : Int) = (8 : Int))) then some (.inr (r10.2.1, (r10.2.2.1, (r10.2.2.2.1, (r10.2.2.2.2.1, ((Go.IntKind.wrap .i64 ((Go.IntKind.wrap .i64 (n : Int)) - (1 : Int))), r10.2.2.2.2.2.2))))))
   else bif (decide ((K : Int) = (12 : Int))) then bif (decide ((15 : Int) < (n : Int))) then some (.inl ((161 : Int), ((0 : Int), ((0 : Int), ((0 : Int), ((0 : Int), (([] : List (Int)), ())))))))
   else bif (decide ((((b.length) : Nat) : Int) < (Go.IntKind.wrap .i64 ((Go.IntKind.wrap .i64 ((Go.IntKind.wrap .i64 ((k : Int) + (size : Int))) + (Go.IntKind.wrap .i64 (n : Int)))) + (1 : Int))))) then some (.inl ((30 : Int), ((0 : Int), ((0 : Int), ((0 : Int), ((0 : Int), (([] : List (Int)), ())))))))
   else (Go.Lf.loopC (σ := (Int) × (Ins × Ins)) (κ := Ins × Ins) (fun z11 =>
       bif (decide (z11.1 ≤ (Go.IntKind.wrap .i64 (n : Int)))) then ((Go.Lf.idx (ints b) (Go.IntKind.wrap .i64 ((Go.IntKind.wrap .i64 ((k : Int) + (size : Int))) + z11.1)))).bind fun r12 =>
       ((Go.Lf.app (8 : Nat) z11.2.1.2.2.2.2.1 ((Go.IntKind.wrap .i64 r12) :: ([] : List (Int))))).bind fun r13 =>
       some (.inl ((Go.IntKind.wrap .i64 (z11.1 + (1 : Int))), ((z11.2.1.1, (z11.2.1.2.1, (z11.2.1.2.2.1, (z11.2.1.2.2.2.1, (r13, z11.2.1.2.2.2.2.2))))), z11.2.2)))
       else some (.inr (z11.2.2, z11.2.1))) ((0 : Int), (r10.2.2, r10.2.1)) : Option (Ins × Ins)).bind fun r14 =>
   some (.inr (r14.1, (r14.2.1, ((Go.IntKind.wrap .i64 ((Go.IntKind.wrap .i64 ((size : Int) + (Go.IntKind.wrap .i64 (n : Int)))) + (1 : Int))), r14.2.2.2))))
   else bif (decide ((n : Int) ≠ (0 : Int))) then some (.inl ((161 : Int), ((0 : Int), ((0 : Int), ((0 : Int), ((0 : Int), (([] : List (Int)), ())))))))
   else some (.inr (r10.2.1, r10.2.2)) : Option (((Int) × Ins) ⊕ (Ins × Ins))).bind fun r15 =>
 Go.Lf.onSum r15 (fun a16 =>
 some (a16.2, a16.1)) (fun b17 =>
 some ((b17.2.1, (b17.2.2.1, (b17.2.2.2.1, (b17.2.2.2.2.1, (b17.2.2.2.2.2.1, b17.2.2.2.2.2.2))))), (0 : Int)))) = some (finS b k size K n) := by
        intro n size hn hsz hs20
        have hw : IntKind.wrap .i64 (n : Int) = (n : Int) := wrapI (by omega) (by omega)
        unfold finS
        by_cases c1 : (K : Int) = 1
        · by_cases c2 : (16383 : Int) < (n : Int)
          · simp only [c1, decide_true, cond_true, c2, if_true, Option.bind_some, onSum]; rfl
          · simp only [c1, decide_true, cond_true, c2, decide_false, cond_false, if_true, if_false, Option.bind_some, onSum, hw, wrapI (show -9223372036854775808 ≤ (n : Int) + 1 by omega) (by omega)]
        · simp only [c1, decide_false, cond_false, if_false]
          by_cases c2 : (K : Int) = 2 ∨ (K : Int) = 3 ∨ (K : Int) = 4 ∨ (K : Int) = 10
          · rcases c2 with c2 | c2 | c2 | c2 <;> simp [c2, onSum, hw]
          · have e2 : ¬ (K : Int) = 2 := by omega
            have e3 : ¬ (K : Int) = 3 := by omega
            have e4 : ¬ (K : Int) = 4 := by omega
            have e10 : ¬ (K : Int) = 10 := by omega
            simp only [e2, e3, e4, e10, decide_false, cond_false, Option.bind_some, or_self, if_false]
            by_cases c8 : (K : Int) = 8
            · simp only [c8, decide_true, cond_true, if_true, Option.bind_some, onSum, hw, wrapI (show -9223372036854775808 ≤ (n : Int) - 1 by omega) (by omega)]
            · simp only [c8, decide_false, cond_false, if_false]
              by_cases c12 : (K : Int) = 12
              · simp only [c12, decide_true, cond_true, if_true]
                by_cases c16 : (15 : Int) < (n : Int)
                · simp only [c16, decide_true, cond_true, Option.bind_some, onSum]
                  rw [if_pos (by omega)]; rfl
                · simp only [c16, decide_false, cond_false, hw]
                  rw [if_neg (by omega), wrapI (x := (k : Int) + size) (by omega) (by omega), wrapI (x := (k : Int) + size + n) (by omega) (by omega), wrapI (x := (k : Int) + size + n + 1) (by omega) (by omega)]
                  by_cases hlen : (b.length : Int) < (k : Int) + size + n + 1
                  · simp only [hlen, decide_true, cond_true, Option.bind_some, onSum]
                    rw [if_pos (by omega)]; rfl
                  · simp only [hlen, decide_false, cond_false]
                    rw [if_neg (by omega), rnext_loop b (k + size) n k size 12 0 _ hb (by omega) _ (by omega) _ rfl _ (fun _ => rfl)]
                    simp only [Option.bind_some, onSum]
                    rw [wrapI (x := (size : Int) + n) (by omega) (by omega), wrapI (x := (size : Int) + n + 1) (by omega) (by omega), show ((k : Int) + (size : Int)).toNat = k + size by omega, show ((n : Int) + 1).toNat = n + 1 by omega, Int.add_assoc]
              · simp only [c12, decide_false, cond_false, if_false]
                by_cases c0 : (n : Int) = 0
                · simp only [c0, ne_eq, not_true_eq_false, decide_false, cond_false, if_false, Option.bind_some, onSum]
                · simp only [c0, ne_eq, not_false_eq_true, decide_true, cond_true, if_true, Option.bind_some, onSum]; rfl
      by_cases h15 : b[k].toNat % 16 = 15
      · rw [decide_eq_true (show (((b[k].toNat % 16 : Nat) : Int) = 15) by omega), cond_true, if_pos h15, wrapS (by omega), take_eq b (k + 1) hb (by omega), Option.bind_some]
        cases hn : numS (b.drop (k + 1)) 0 0 with
        | ok p =>
          have h4 := num_len _ 0 0 p.1 p.2 hn
          rw [List.length_drop] at h4
          obtain ⟨v, r, hv1, hv2, _, _⟩ := num_canon _ 0 0 p.1 p.2 hn
          simp only [ne_eq, not_true_eq_false, decide_false, cond_false]
          by_cases hbig : (2147483647 : Int) < (p.1 : Int)
          · have hbig' : 2147483632 < p.1 := by omega
            simp only [hbig, decide_true, cond_true, Option.bind_some, onSum, if_pos hbig']; rfl
          · simp only [hbig, decide_false, cond_false, Option.bind_some, onSum]
            rw [wrapU (x := (p.1 : Int) + 15) (by omega) (by omega), wrapI (x := 1 + (p.2 : Int)) (by omega) (by omega)]
            by_cases hbig2 : 2147483632 < p.1
            · rw [decide_eq_true (by omega), cond_true, if_pos hbig2]; rfl
            · rw [decide_eq_false (by omega), cond_false, if_neg hbig2]
              have hl5 : (uintS v).length ≤ 5 := uint_len 4 v (by
                have : (128 : Nat) ^ 5 = 34359738368 := by decide
                omega)
              have := rest (p.1 + 15) (1 + p.2) (by omega) (by omega) (by omega)
              rw [show ((p.1 + 15 : Nat) : Int) = (p.1 : Int) + 15 by omega, show ((1 + p.2 : Nat) : Int) = 1 + (p.2 : Int) by omega] at this
              exact this
        | error e =>
          have he : e ≠ 0 := by rcases num_err _ _ _ _ hn with h | h <;> omega
          simp only [Option.bind_some, ne_eq, he, not_false_eq_true, decide_true, cond_true, onSum]; rfl
      · rw [decide_eq_false (show ¬ (((b[k].toNat % 16 : Nat) : Int) = 15) by omega), cond_false, if_neg h15]
        simp only [Option.bind_some, onSum]
        rw [decide_eq_false (by omega), cond_false]
        exact rest (b[k].toNat % 16) 1 (by omega) (by omega) (by omega)
end Go.Fn
/- Chapter 16, plainly: instructions, lines. -/
namespace Go.Fn
open Go Go.Lf

theorem loop_fnS {σ κ : Type} {B : Int × σ → Option ((Int × σ) ⊕ κ)} (f : Nat → σ) (n : Nat) (k : κ) (h1 : ∀ i, i < n → B ((i : Int), f i) = some (.inl (((i + 1 : Nat) : Int), f (i + 1)))) (h2 : B ((n : Int), f n) = some (.inr k)) :
    ∀ m i, i + m = n → loopC B ((i : Int), f i) = some k
  | 0, i, h => by
    have : i = n := by omega
    subst this
    rw [loopC_step, h2]; rfl
  | m + 1, i, h => by
    rw [loopC_step, h1 i (by omega)]
    exact loop_fnS f n k h1 h2 m (i + 1) (by omega)
/-- instructions, one behind the other, from a place on; the bytes that they are -/
inductive Chain : Nat → List Ins → List UInt8 → Prop
  | last {a : Nat} {i : Ins} : GoodI i → i.1 = a → i.2.2.1 = 15 → Chain a [i] (encI i)
  | more {a : Nat} {i : Ins} {l : List Ins} {r : List UInt8} : GoodI i → i.1 = a → i.2.2.1 ≠ 15 → Chain (a + (encI i).length) l r → Chain a (i :: l) (encI i ++ r)

theorem instrs_loop (b : List UInt8) (hb : b.length ≤ 1048576)
    (B1 : Int × List Ins → Option ((Int × List Ins) ⊕ (Unit ⊕ (List Ins × (Int × Int)))))
    (hB1 : ∀ z1, B1 z1 = bif (decide (z1.1 < (((List.length (ints b)) : Nat) : Int))) then ((Go.Fn.code_Next (ints b) z1.1)).bind fun r2 =>
     bif (decide ((r2.2 : Int) ≠ (0 : Int))) then some (.inr (.inr (([] : List Ins), (z1.1, r2.2))))
     else ((Go.Lf.app (56 : Nat) z1.2 (r2.1 :: ([] : List Ins)))).bind fun r3 =>
     bif (decide ((r2.1.2.2.1 : Int) = (15 : Int))) then bif (decide ((Go.IntKind.wrap .i64 (z1.1 + r2.1.2.1)) < (((List.length (ints b)) : Nat) : Int))) then some (.inr (.inr (([] : List Ins), ((Go.IntKind.wrap .i64 (z1.1 + r2.1.2.1)), (162 : Int)))))
     else some (.inr (.inr (r3, ((0 : Int), (0 : Int)))))
     else some (.inl ((Go.IntKind.wrap .i64 (z1.1 + r2.1.2.1)), r3))
     else some (.inr (.inl ())))
    (B2 : Int × List Ins → Option ((Int × List Ins) ⊕ (Int ⊕ (List Ins × (Int × Int)))))
    (hB2 : ∀ z1, B2 z1 = bif (decide (z1.1 < (((List.length (ints b)) : Nat) : Int))) then ((Go.Fn.folioref16_Next (ints b) z1.1)).bind fun r2 =>
     bif (decide ((r2.2 : Int) ≠ (0 : Int))) then some (.inr (.inr (([] : List Ins), (z1.1, r2.2))))
     else ((Go.Lf.app (56 : Nat) z1.2 (r2.1 :: ([] : List Ins)))).bind fun r3 =>
     bif (decide ((r2.1.2.2.1 : Int) = (15 : Int))) then bif (decide ((Go.IntKind.wrap .i64 (z1.1 + r2.1.2.1)) < (((List.length (ints b)) : Nat) : Int))) then some (.inr (.inr (([] : List Ins), ((Go.IntKind.wrap .i64 (z1.1 + r2.1.2.1)), (162 : Int)))))
     else some (.inr (.inr (r3, ((0 : Int), (0 : Int)))))
     else some (.inl ((Go.IntKind.wrap .i64 (z1.1 + r2.1.2.1)), r3))
     else some (.inr (.inl z1.1))) :
    ∀ (m a : Nat) (out : List Ins), a + m = b.length → out.length ≤ a →
      (∃ l, loopC B1 ((a : Int), out) = some (.inr (out ++ l, (0, 0))) ∧ loopC B2 ((a : Int), out) = some (.inr (out ++ l, (0, 0))) ∧ Chain a l (b.drop a)) ∨
      (∃ p e, e ≠ 0 ∧ loopC B1 ((a : Int), out) = some (.inr ([], (p, e))) ∧ loopC B2 ((a : Int), out) = some (.inr ([], (p, e)))) ∨
      (loopC B1 ((a : Int), out) = some (.inl ()) ∧ loopC B2 ((a : Int), out) = some (.inl (b.length : Int))) := by
  intro m
  induction m using Nat.strongRecOn with
  | ind m ih =>
  intro a out ha ho
  by_cases hm : m = 0
  · subst hm
    have : a = b.length := by omega
    subst this
    refine .inr (.inr ⟨?_, ?_⟩)
    · rw [loopC_step, hB1]
      simp only [ints_len, Int.lt_irrefl, decide_false, cond_false, Option.bind_some]
    · rw [loopC_step, hB2]
      simp only [ints_len, Int.lt_irrefl, decide_false, cond_false, Option.bind_some]
  · have hlt : (a : Int) < (b.length : Int) := by omega
    rcases hq : nextS b a with ⟨i, e⟩
    by_cases he : e = 0
    · subst he
      obtain ⟨hg, h1, p, r, hp, hbr⟩ := next_canon hq
      have hlong := hg.long
      have hpos := enc_pos i.2.2.1 i.2.2.2.1 i.2.2.2.2.1
      have hpos : 0 < (encI i).length := hpos
      have hlen := congrArg List.length hbr
      rw [List.length_append, List.length_append, hp] at hlen
      have hdrop : b.drop a = encI i ++ r := by rw [hbr, ← hp, List.drop_left]
      have hw : IntKind.wrap .i64 ((a : Int) + i.2.1) = ((a + (encI i).length : Nat) : Int) := by
        rw [hlong, wrapI (by omega) (by omega)]; omega
      have happ : app 56 out [i] = some (out ++ [i]) := app_of (by simp only [List.length_cons, List.length_nil]; omega)
      by_cases hk : i.2.2.1 = 15
      · by_cases hend : a + (encI i).length < b.length
        · refine .inr (.inl ⟨((a + (encI i).length : Nat) : Int), 162, by decide, ?_, ?_⟩)
          · rw [loopC_step, hB1]
            simp only [ints_len, hlt, decide_true, cond_true, next_eq b hb, hq, Option.bind_some, ne_eq, not_true_eq_false, decide_false, cond_false, happ, hk, hw, show ((a + (encI i).length : Nat) : Int) < (b.length : Int) by omega]
          · rw [loopC_step, hB2]
            simp only [ints_len, hlt, decide_true, cond_true, rnext_eq b hb, hq, Option.bind_some, ne_eq, not_true_eq_false, decide_false, cond_false, happ, hk, hw, show ((a + (encI i).length : Nat) : Int) < (b.length : Int) by omega]
        · refine .inl ⟨[i], ?_, ?_, ?_⟩
          · rw [loopC_step, hB1]
            simp only [ints_len, hlt, decide_true, cond_true, next_eq b hb, hq, Option.bind_some, ne_eq, not_true_eq_false, decide_false, cond_false, happ, hk, hw, show ¬ ((a + (encI i).length : Nat) : Int) < (b.length : Int) by omega]
          · rw [loopC_step, hB2]
            simp only [ints_len, hlt, decide_true, cond_true, rnext_eq b hb, hq, Option.bind_some, ne_eq, not_true_eq_false, decide_false, cond_false, happ, hk, hw, show ¬ ((a + (encI i).length : Nat) : Int) < (b.length : Int) by omega]
          · have hr : r = [] := List.length_eq_zero_iff.1 (by omega)
            rw [hdrop, hr, List.append_nil]
            exact .last hg h1 hk
      · have s1 : loopC B1 ((a : Int), out) = loopC B1 (((a + (encI i).length : Nat) : Int), out ++ [i]) := by
          rw [loopC_step, hB1]
          simp only [ints_len, hlt, decide_true, cond_true, next_eq b hb, hq, Option.bind_some, ne_eq, not_true_eq_false, decide_false, cond_false, happ, hk, hw]
        have s2 : loopC B2 ((a : Int), out) = loopC B2 (((a + (encI i).length : Nat) : Int), out ++ [i]) := by
          rw [loopC_step, hB2]
          simp only [ints_len, hlt, decide_true, cond_true, rnext_eq b hb, hq, Option.bind_some, ne_eq, not_true_eq_false, decide_false, cond_false, happ, hk, hw]
        rw [s1, s2]
        rcases ih (b.length - (a + (encI i).length)) (by omega) (a + (encI i).length) (out ++ [i]) (by omega) (by simp only [List.length_append, List.length_cons, List.length_nil]; omega) with ⟨l, g1, g2, g3⟩ | h | h
        · refine .inl ⟨i :: l, by rw [g1]; simp, by rw [g2]; simp, ?_⟩
          rw [hdrop]
          have : b.drop (a + (encI i).length) = r := by rw [← List.drop_drop, hdrop, List.drop_left]
          rw [this] at g3
          exact .more hg h1 hk g3
        · exact .inr (.inl h)
        · exact .inr (.inr h)
    · refine .inr (.inl ⟨(a : Int), e, he, ?_, ?_⟩)
      · rw [loopC_step, hB1]
        simp only [ints_len, hlt, decide_true, cond_true, next_eq b hb, hq, Option.bind_some, ne_eq, he, not_false_eq_true]
      · rw [loopC_step, hB2]
        simp only [ints_len, hlt, decide_true, cond_true, rnext_eq b hb, hq, Option.bind_some, ne_eq, he, not_false_eq_true]
/-- both sides' instructions -/
theorem instrs_eq (b : List UInt8) : ∃ r, code_Instrs (ints b) = some r ∧ folioref16_Instrs (ints b) = some r ∧ ((r.2.2 = 0 ∧ r.2.1 = 0 ∧ b.length ≤ 1048576 ∧ Chain 0 r.1 b) ∨ (r.2.2 ≠ 0 ∧ r.1 = [])) := by
  unfold code_Instrs folioref16_Instrs
  by_cases hb : b.length ≤ 1048576
  · rw [decide_eq_false (by rw [ints_len]; omega), cond_false, cond_false]
    rcases instrs_loop b hb _ (fun _ => rfl) _ (fun _ => rfl) b.length 0 [] (by omega) (Nat.le_refl _) with ⟨l, h1, h2, h3⟩ | ⟨p, e, he, h1, h2⟩ | ⟨h1, h2⟩
    · have h1 : loopC _ ((0 : Int), ([] : List Ins)) = _ := h1
      have h2 : loopC _ ((0 : Int), ([] : List Ins)) = _ := h2
      rw [h1, h2]
      exact ⟨_, rfl, rfl, .inl ⟨rfl, rfl, hb, h3⟩⟩
    · have h1 : loopC _ ((0 : Int), ([] : List Ins)) = _ := h1
      have h2 : loopC _ ((0 : Int), ([] : List Ins)) = _ := h2
      rw [h1, h2]
      exact ⟨_, rfl, rfl, .inr ⟨he, rfl⟩⟩
    · have h1 : loopC _ ((0 : Int), ([] : List Ins)) = _ := h1
      have h2 : loopC _ ((0 : Int), ([] : List Ins)) = _ := h2
      rw [h1, h2]
      refine ⟨([], (b.length : Int), 162), ?_, rfl, .inr ⟨(show (162 : Int) ≠ 0 by decide), rfl⟩⟩
      simp only [Option.bind_some, onSum, ints_len]
  · rw [decide_eq_true (by rw [ints_len]; omega), cond_true, cond_true]
    exact ⟨_, rfl, rfl, .inr ⟨(show (2 : Int) ≠ 0 by decide), rfl⟩⟩

/-! ### lines -/
def nameS (k : Int) : List UInt8 := namesL.getD k.toNat []
def numbS (k : Int) : Bool := decide (k = 1 ∨ k = 2 ∨ k = 3 ∨ k = 4 ∨ k = 8 ∨ k = 10)
def wordsW (l : List Int) : List UInt8 := l.flatMap fun x => 32 :: Lib.itoa x
def headS (i : Ins) : List UInt8 := Lib.itoa i.1 ++ [32] ++ nameS i.2.2.1 ++ (if numbS i.2.2.1 = true then 32 :: Lib.itoa i.2.2.2.1 else [])
def lineS (i : Ins) : List UInt8 := headS i ++ wordsW i.2.2.2.2.1
theorem numb_eq (k : Int) : code_numbered k = some (numbS k) := by
  unfold code_numbered numbS
  by_cases h1 : k = 1
  · subst h1; rfl
  by_cases h2 : k = 2
  · subst h2; rfl
  by_cases h3 : k = 3
  · subst h3; rfl
  by_cases h4 : k = 4
  · subst h4; rfl
  by_cases h8 : k = 8
  · subst h8; rfl
  by_cases h10 : k = 10
  · subst h10; rfl
  simp [h1, h2, h3, h4, h8, h10]
theorem rnumb_eq (k : Int) : folioref16_numbered k = some (numbS k) := by
  unfold folioref16_numbered numbS
  by_cases h1 : k = 1
  · subst h1; rfl
  by_cases h2 : k = 2
  · subst h2; rfl
  by_cases h3 : k = 3
  · subst h3; rfl
  by_cases h4 : k = 4
  · subst h4; rfl
  by_cases h8 : k = 8
  · subst h8; rfl
  by_cases h10 : k = 10
  · subst h10; rfl
  by_cases a1 : 1 ≤ k
  · have a4 : ¬ k ≤ 4 := by omega
    simp [h1, h2, h3, h4, h8, h10, a1, a4]
  · simp [h1, h2, h3, h4, h8, h10, a1]
theorem name_eq {k : Int} (h : 1 ≤ k ∧ k ≤ 15) : code_name k = some (nameS k) ∧ folioref16_Name k = some (nameS k) := by
  have hk : k = 1 ∨ k = 2 ∨ k = 3 ∨ k = 4 ∨ k = 5 ∨ k = 6 ∨ k = 7 ∨ k = 8 ∨ k = 9 ∨ k = 10 ∨ k = 11 ∨ k = 12 ∨ k = 13 ∨ k = 14 ∨ k = 15 := by omega
  rcases hk with rfl | rfl | rfl | rfl | rfl | rfl | rfl | rfl | rfl | rfl | rfl | rfl | rfl | rfl | rfl <;> exact ⟨rfl, rfl⟩
theorem name_len {k : Int} (h : 1 ≤ k ∧ k ≤ 15) : (nameS k).length ≤ 5 := by
  have hk : k = 1 ∨ k = 2 ∨ k = 3 ∨ k = 4 ∨ k = 5 ∨ k = 6 ∨ k = 7 ∨ k = 8 ∨ k = 9 ∨ k = 10 ∨ k = 11 ∨ k = 12 ∨ k = 13 ∨ k = 14 ∨ k = 15 := by omega
  rcases hk with rfl | rfl | rfl | rfl | rfl | rfl | rfl | rfl | rfl | rfl | rfl | rfl | rfl | rfl | rfl <;> decide
theorem itoa_eq {n : Int} (h0 : -9223372036854775808 ≤ n) (h1 : n ≤ 9223372036854775807) : strconv_Itoa n = some (Lib.itoa n) := by
  unfold strconv_Itoa
  rw [if_pos ⟨h0, h1⟩]
/-- what a line's instruction is -/
structure LineI (i : Ins) : Prop where
  a : 0 ≤ i.1 ∧ i.1 ≤ 1000000000000
  k : 1 ≤ i.2.2.1 ∧ i.2.2.1 ≤ 15
  n : -1 ≤ i.2.2.2.1 ∧ i.2.2.2.1 ≤ 2147483648
  w : i.2.2.2.2.1.length ≤ 16 ∧ ∀ x ∈ i.2.2.2.2.1, 0 ≤ x ∧ x ≤ 255
theorem laid_n {k n : Int} {w : List Int} (h : LaidI k n w) : -1 ≤ n ∧ n ≤ 2147483648 ∧ w.length ≤ 16 := by
  have ho := h.ho
  have hw := h.hw
  have hn := h.hn
  unfold opS at ho
  have hwl : w.length ≤ 16 := by
    by_cases h12 : k = 12
    · exact (hw.2.1 h12).2.2
    · rw [hw.2.2 h12]; simp
  refine ⟨?_, ?_, hwl⟩
  · split at ho
    · omega
    · split at ho
      · omega
      · split at ho
        · rename_i h12; have := (hw.2.1 h12).1; omega
        · omega
  · split at ho
    · omega
    · split at ho
      · omega
      · split at ho
        · rename_i h12; have := (hw.2.1 h12).1; omega
        · omega
theorem good_line {i : Ins} (h : GoodI i) (a : Int) (ha : 0 ≤ a ∧ a ≤ 1000000000000) : LineI (a, i.2) := by
  have h1 := laid_n h.l
  exact ⟨ha, h.l.hk, ⟨h1.1, h1.2.1⟩, h1.2.2, h.l.hw.1⟩
theorem itoa_len {n : Int} (h0 : -9223372036854775808 ≤ n) (h1 : n ≤ 9223372036854775807) : (Lib.itoa n).length ≤ 21 := Lib.itoa_length_le n h0 h1
theorem head_len {i : Ins} (h : LineI i) : (headS i).length ≤ 60 := by
  have ha := h.a
  have hn := h.n
  have h1 := itoa_len (n := i.1) (by omega) (by omega)
  have h2 := itoa_len (n := i.2.2.2.1) (by omega) (by omega)
  have h3 := name_len h.k
  unfold headS
  simp only [List.length_append, List.length_cons, List.length_nil]
  split
  · simp only [List.length_cons]; omega
  · simp only [List.length_nil]; omega
theorem wordsW_len {l : List Int} (h : ∀ x ∈ l, 0 ≤ x ∧ x ≤ 255) : (wordsW l).length ≤ l.length * 22 := by
  induction l with
  | nil => simp [wordsW]
  | cons x r ih =>
    have h1 := h x List.mem_cons_self
    have h2 := itoa_len (n := x) (by omega) (by omega)
    have h3 := ih fun y hy => h y (List.mem_cons_of_mem _ hy)
    have : wordsW (x :: r) = (32 :: Lib.itoa x) ++ wordsW r := rfl
    rw [this, List.length_append, List.length_cons, List.length_cons]
    omega
theorem wordsW_snoc (l : List Int) (x : Int) : wordsW (l ++ [x]) = wordsW l ++ (32 :: Lib.itoa x) := by simp [wordsW, List.flatMap_append]
theorem line_eq {i : Ins} (h : LineI i) : code_line i = some (lineS i) := by
  have ha := h.a
  have hn := h.n
  have hw := h.w
  have hhl := head_len h
  have h3 := name_len h.k
  have l1 := itoa_len (n := i.1) (by omega) (by omega)
  have l2 := itoa_len (n := i.2.2.2.1) (by omega) (by omega)
  unfold code_line
  rw [itoa_eq (by omega) (by omega), Option.bind_some, cat_of (by simp only [List.length_cons, List.length_nil]; omega), Option.bind_some, (name_eq h.k).1, Option.bind_some, cat_of (by simp only [List.length_append, List.length_cons, List.length_nil]; omega), Option.bind_some, numb_eq, Option.bind_some]
  have hh : (bif numbS i.2.2.1 then (strconv_Itoa i.2.2.2.1).bind fun r6 => (cat ((32 : UInt8) :: ([] : List UInt8)) r6).bind fun r7 => (cat (Lib.itoa i.1 ++ [32] ++ nameS i.2.2.1) r7).bind fun r8 => some (r8, i) else some (Lib.itoa i.1 ++ [32] ++ nameS i.2.2.1, i)) = some (headS i, i) := by
    unfold headS
    cases hb : numbS i.2.2.1 with
    | true =>
      rw [cond_true, itoa_eq (by omega) (by omega), Option.bind_some, cat_of (by simp only [List.length_cons, List.length_nil]; omega), Option.bind_some, cat_of (by simp only [List.length_append, List.length_cons, List.length_nil]; omega), Option.bind_some, if_pos rfl]; rfl
    | false => rw [cond_false, if_neg (by decide), List.append_nil]
  rw [hh, Option.bind_some]
  have key := loop_fnS (B := fun z10 : Int × List UInt8 =>
     bif (decide (z10.1 < (((List.length i.2.2.2.2.1) : Nat) : Int))) then ((Go.Lf.idx i.2.2.2.2.1 z10.1)).bind fun r11 =>
     ((Go.Fn.strconv_Itoa r11)).bind fun r12 =>
     ((Go.Lf.cat ((32 : UInt8) :: ([] : List (UInt8))) r12)).bind fun r13 =>
     ((Go.Lf.cat z10.2 r13)).bind fun r14 =>
     some (.inl ((Go.IntKind.wrap .i64 (z10.1 + (1 : Int))), r14))
     else some (.inr z10.2)) (fun j => headS i ++ wordsW (i.2.2.2.2.1.take j)) i.2.2.2.2.1.length (lineS i) ?_ ?_ i.2.2.2.2.1.length 0 (by omega)
  · have key : loopC _ ((0 : Int), headS i ++ wordsW []) = _ := key
    rw [show headS i ++ wordsW [] = headS i by simp [wordsW]] at key
    rw [key]; rfl
  · intro j hj
    have hg : i.2.2.2.2.1[j]? = some i.2.2.2.2.1[j] := List.getElem?_eq_getElem hj
    have hx := hw.2 _ (List.getElem_mem hj)
    have l3 := itoa_len (n := i.2.2.2.2.1[j]) (by omega) (by omega)
    have l4 := wordsW_len (l := i.2.2.2.2.1.take j) (fun x hx => hw.2 x (List.mem_of_mem_take hx))
    have l5 : (i.2.2.2.2.1.take j).length ≤ 16 := by rw [List.length_take]; omega
    simp only [show (j : Int) < ((i.2.2.2.2.1.length : Nat) : Int) by omega, decide_true, cond_true, idx_nat, hg, Option.bind_some]
    rw [itoa_eq (by omega) (by omega), Option.bind_some, cat_of (by simp only [List.length_cons, List.length_nil]; omega), Option.bind_some, cat_of (by simp only [List.length_append, List.length_cons, List.length_nil]; omega), Option.bind_some, wrapS (by omega), List.take_add_one, hg, Option.toList, wordsW_snoc, List.append_assoc]
    rfl
  · simp only [Int.lt_irrefl, decide_false, cond_false, List.take_length]; rfl
theorem rline_eq {i : Ins} (h : LineI i) : folioref16_Line i = some (lineS i) := by
  have ha := h.a
  have hn := h.n
  have hw := h.w
  have hhl := head_len h
  have h3 := name_len h.k
  have l1 := itoa_len (n := i.1) (by omega) (by omega)
  have l2 := itoa_len (n := i.2.2.2.1) (by omega) (by omega)
  unfold folioref16_Line
  rw [itoa_eq (by omega) (by omega), Option.bind_some, cat_of (by simp only [List.length_cons, List.length_nil]; omega), Option.bind_some, (name_eq h.k).2, Option.bind_some, cat_of (by simp only [List.length_append, List.length_cons, List.length_nil]; omega), Option.bind_some, rnumb_eq, Option.bind_some]
  have hh : (bif numbS i.2.2.1 then (cat (Lib.itoa i.1 ++ [32] ++ nameS i.2.2.1) ((32 : UInt8) :: ([] : List UInt8))).bind fun r6 => (strconv_Itoa i.2.2.2.1).bind fun r7 => (cat r6 r7).bind fun r8 => some (r8, i) else some (Lib.itoa i.1 ++ [32] ++ nameS i.2.2.1, i)) = some (headS i, i) := by
    unfold headS
    cases hb : numbS i.2.2.1 with
    | true =>
      rw [cond_true, cat_of (by simp only [List.length_append, List.length_cons, List.length_nil]; omega), Option.bind_some, itoa_eq (by omega) (by omega), Option.bind_some, cat_of (by simp only [List.length_append, List.length_cons, List.length_nil]; omega), Option.bind_some, if_pos rfl, List.append_assoc _ [32]]; rfl
    | false => rw [cond_false, if_neg (by decide), List.append_nil]
  rw [hh, Option.bind_some]
  have key := loop_fnS (B := fun z10 : Int × (List UInt8 × Ins) =>
     bif (decide (z10.1 < (((List.length z10.2.2.2.2.2.2.1) : Nat) : Int))) then ((Go.Lf.cat z10.2.1 ((32 : UInt8) :: ([] : List (UInt8))))).bind fun r11 =>
     ((Go.Lf.idx z10.2.2.2.2.2.2.1 z10.1)).bind fun r12 =>
     ((Go.Fn.strconv_Itoa r12)).bind fun r13 =>
     ((Go.Lf.cat r11 r13)).bind fun r14 =>
     some (.inl ((Go.IntKind.wrap .i64 (z10.1 + (1 : Int))), (r14, z10.2.2)))
     else some (.inr z10.2.1)) (fun j => (headS i ++ wordsW (i.2.2.2.2.1.take j), i)) i.2.2.2.2.1.length (lineS i) ?_ ?_ i.2.2.2.2.1.length 0 (by omega)
  · have key : loopC _ ((0 : Int), (headS i ++ wordsW [], i)) = _ := key
    rw [show headS i ++ wordsW [] = headS i by simp [wordsW]] at key
    rw [key]; rfl
  · intro j hj
    have hg : i.2.2.2.2.1[j]? = some i.2.2.2.2.1[j] := List.getElem?_eq_getElem hj
    have hx := hw.2 _ (List.getElem_mem hj)
    have l3 := itoa_len (n := i.2.2.2.2.1[j]) (by omega) (by omega)
    have l4 := wordsW_len (l := i.2.2.2.2.1.take j) (fun x hx => hw.2 x (List.mem_of_mem_take hx))
    have l5 : (i.2.2.2.2.1.take j).length ≤ 16 := by rw [List.length_take]; omega
    simp only [show (j : Int) < ((i.2.2.2.2.1.length : Nat) : Int) by omega, decide_true, cond_true, idx_nat, hg, Option.bind_some]
    rw [cat_of (by simp only [List.length_append, List.length_cons, List.length_nil]; omega), Option.bind_some, itoa_eq (by omega) (by omega), Option.bind_some, cat_of (by simp only [List.length_append, List.length_cons, List.length_nil]; omega), Option.bind_some, wrapS (by omega), List.take_add_one, hg, Option.toList, wordsW_snoc, List.append_assoc, List.append_assoc]
    rfl
  · simp only [Int.lt_irrefl, decide_false, cond_false, List.take_length]; rfl
end Go.Fn
/- Chapter 16, plainly: numbers and words. -/
namespace Go.Fn
open Go Go.Lf

theorem u8_inj {a b : UInt8} (h : a.toNat = b.toNat) : a = b := UInt8.toNat_inj.1 h
/-! ### decimal numbers -/
theorem dd_lo {u : Nat} (h : u < 10) : Lib.decDigits u = [UInt8.ofNat (48 + u)] := by rw [Lib.decDigits, dif_pos h]
theorem dd_hi {u : Nat} (h : ¬ u < 10) : Lib.decDigits u = Lib.decDigits (u / 10) ++ [UInt8.ofNat (48 + u % 10)] := by rw [Lib.decDigits, dif_neg h]
theorem dd_digit : ∀ (u : Nat), ∀ x ∈ Lib.decDigits u, 48 ≤ x.toNat ∧ x.toNat ≤ 57 := by
  intro u
  induction u using Nat.strongRecOn with
  | ind u ih =>
  intro x hx
  by_cases h : u < 10
  · rw [dd_lo h, List.mem_singleton] at hx
    rw [hx, byte_nat (by omega)]; omega
  · rw [dd_hi h] at hx
    rcases List.mem_append.1 hx with hx | hx
    · exact ih (u / 10) (by omega) x hx
    · rw [List.mem_singleton] at hx
      rw [hx, byte_nat (by omega)]; omega
theorem dd_ne (u : Nat) : Lib.decDigits u ≠ [] := by
  by_cases h : u < 10
  · rw [dd_lo h]; simp
  · rw [dd_hi h]; simp
theorem dd_len : ∀ (k u : Nat), u < 10 ^ (k + 1) → (Lib.decDigits u).length ≤ k + 1
  | 0, u, h => by rw [dd_lo (by omega)]; exact Nat.le_refl _
  | k + 1, u, h => by
    by_cases h1 : u < 10
    · rw [dd_lo h1]; simp
    · rw [dd_hi h1, List.length_append]
      have := dd_len k (u / 10) (by rw [Nat.pow_succ] at h; omega)
      simp only [List.length_cons, List.length_nil]; omega
/-- the document's reading of digits -/
def numStep (n : Nat) (x : UInt8) : Nat := if (48 ≤ x.toNat ∧ x.toNat ≤ 57) ∧ n ≤ 2147483647 then 10 * n + (x.toNat - 48) else n
theorem num_dd : ∀ (u : Nat), u ≤ 2147483648 → (Lib.decDigits u).foldl numStep 0 = u := by
  intro u
  induction u using Nat.strongRecOn with
  | ind u ih =>
  intro hu
  by_cases h : u < 10
  · rw [dd_lo h]
    show numStep 0 _ = u
    unfold numStep
    rw [byte_nat (by omega), if_pos (by omega)]; omega
  · rw [dd_hi h, List.foldl_append, ih (u / 10) (by omega) (by omega)]
    show numStep (u / 10) _ = u
    unfold numStep
    rw [byte_nat (by omega), if_pos (by omega)]; omega
theorem step_bd (n : Nat) (x : UInt8) (h : n ≤ 30000000000) : numStep n x ≤ 30000000000 := by
  unfold numStep
  split
  · omega
  · exact h
theorem dec_app (l : List UInt8) (b : UInt8) : ∀ acc m, Lib.decFrom acc l = some m → ∀ d, Lib.digitVal b = some d → Lib.decFrom acc (l ++ [b]) = some (m * 10 + d) := by
  induction l with
  | nil =>
    intro acc m h d hd
    have h : some acc = some m := h
    injection h with h
    subst h
    show Lib.decFrom acc [b] = _
    unfold Lib.decFrom
    rw [hd]; rfl
  | cons x r ih =>
    intro acc m h d hd
    show Lib.decFrom acc (x :: (r ++ [b])) = _
    unfold Lib.decFrom at h ⊢
    cases hx : Lib.digitVal x with
    | none => rw [hx] at h; cases h
    | some y =>
      rw [hx] at h
      exact ih _ _ h d hd
theorem dec_dd : ∀ u : Nat, Lib.decFrom 0 (Lib.decDigits u) = some u := by
  intro u
  have hd : ∀ d, d < 10 → Lib.digitVal (UInt8.ofNat (48 + d)) = some d := fun d h => by
    unfold Lib.digitVal
    rw [byte_nat (by omega), if_pos (by omega)]
    congr 1; omega
  induction u using Nat.strongRecOn with
  | ind u ih =>
  by_cases h : u < 10
  · rw [dd_lo h]
    unfold Lib.decFrom
    rw [hd u h]
    show Lib.decFrom (0 * 10 + u) [] = some u
    unfold Lib.decFrom
    congr 1; omega
  · rw [dd_hi h, dec_app _ _ 0 (u / 10) (ih (u / 10) (by omega)) (u % 10) (hd _ (by omega))]
    congr 1; omega
theorem decNat_dd (u : Nat) : Lib.decNat (Lib.decDigits u) = some u := by
  unfold Lib.decNat
  rw [if_neg, dec_dd]
  have := dd_ne u
  cases h : Lib.decDigits u with
  | nil => exact absurd h this
  | cons x r => simp
theorem itoa_nn {n : Int} (h : 0 ≤ n) : Lib.itoa n = Lib.decDigits n.toNat := by unfold Lib.itoa; rw [if_neg (by omega)]
theorem itoa_ng {n : Int} (h : n < 0) : Lib.itoa n = 45 :: Lib.decDigits n.natAbs := by unfold Lib.itoa; rw [if_pos h]
theorem itoa_ne (n : Int) : Lib.itoa n ≠ [] := by
  by_cases h : n < 0
  · rw [itoa_ng h]; simp
  · rw [itoa_nn (by omega)]; exact dd_ne _
theorem itoa_no (n : Int) : ∀ x ∈ Lib.itoa n, x ≠ 32 := by
  intro x hx e
  subst e
  by_cases h : n < 0
  · rw [itoa_ng h] at hx
    rcases List.mem_cons.1 hx with hx | hx
    · cases hx
    · have := dd_digit _ _ hx
      have e : (32 : UInt8).toNat = 32 := rfl
      omega
  · rw [itoa_nn (by omega)] at hx
    have := dd_digit _ _ hx
    have e : (32 : UInt8).toNat = 32 := rfl
    omega
theorem itoa_short {n : Int} (h0 : -2147483648 ≤ n) (h1 : n ≤ 2147483648) : (Lib.itoa n).length ≤ 11 := by
  by_cases h : n < 0
  · rw [itoa_ng h, List.length_cons]
    have := dd_len 9 n.natAbs (by have : (10 : Nat) ^ 10 = 10000000000 := by decide
                                  omega)
    omega
  · rw [itoa_nn (by omega)]
    have := dd_len 9 n.toNat (by have : (10 : Nat) ^ 10 = 10000000000 := by decide
                                 omega)
    omega
theorem atoi_itoa {n : Int} (h0 : -2147483648 ≤ n) (h1 : n ≤ 2147483648) : strconv_Atoi (Lib.itoa n) = some (n, none) := by
  have hl := itoa_short h0 h1
  unfold strconv_Atoi
  rw [if_pos (by omega), Lib.atoiAll_short _ (by omega)]
  have : Lib.atoi (Lib.itoa n) = some n := by
    by_cases h : n < 0
    · rw [itoa_ng h]
      unfold Lib.atoi
      show (if ((45 : UInt8) == 45) = true then (Lib.decNat (Lib.decDigits n.natAbs)).map (fun (m : Nat) => -(m : Int)) else (if ((45 : UInt8) == 43) = true then (Lib.decNat (Lib.decDigits n.natAbs)).map (fun (m : Nat) => (m : Int)) else (Lib.decNat (45 :: Lib.decDigits n.natAbs)).map (fun (m : Nat) => (m : Int)))) = _
      rw [if_pos (show ((45 : UInt8) == 45) = true from rfl), decNat_dd]
      show some (-(n.natAbs : Int)) = some n
      congr 1; omega
    · rw [itoa_nn (by omega)]
      cases hd : Lib.decDigits n.toNat with
      | nil => exact absurd hd (dd_ne _)
      | cons x r =>
        have hx := dd_digit n.toNat x (by rw [hd]; exact List.mem_cons_self)
        have e45 : (x == 45) = false := by
          rw [beq_eq_false_iff_ne]; intro e; subst e
          have : (45 : UInt8).toNat = 45 := rfl
          omega
        have e43 : (x == 43) = false := by
          rw [beq_eq_false_iff_ne]; intro e; subst e
          have : (43 : UInt8).toNat = 43 := rfl
          omega
        unfold Lib.atoi
        dsimp only
        rw [e45, e43, if_neg (by decide), if_neg (by decide), ← hd, decNat_dd]
        show some (n.toNat : Int) = some n
        congr 1; omega
  rw [this]; rfl
/-- the document's number -/
def numW (w : List UInt8) : Int := if w.head? = some 45 then -((w.foldl numStep 0 : Nat) : Int) else ((w.foldl numStep 0 : Nat) : Int)
theorem fold_bd (w : List UInt8) : ∀ n, n ≤ 30000000000 → w.foldl numStep n ≤ 30000000000 := by
  induction w with
  | nil => exact fun n h => h
  | cons x r ih => exact fun n h => ih _ (step_bd n x h)
theorem number_eq2 (w : List UInt8) (hw : w.length ≤ 1048576) : folioref16_number w = some (numW w, decide (Lib.itoa (numW w) = w)) := by
  have hb := fold_bd w 0 (by omega)
  unfold folioref16_number
  have h1 : (bif (decide ((0 : Int) < (((List.length w) : Nat) : Int))) then ((Go.Lf.idx w (0 : Int))).bind fun r1 =>
   some ((0 : Int), (decide (((((UInt8.toNat r1) : Nat) : Int) : Int) = (45 : Int))))
   else some ((0 : Int), false)) = some ((0 : Int), decide (w.head? = some 45)) := by
    cases w with
    | nil => rfl
    | cons x r =>
      rw [decide_eq_true (by simp only [List.length_cons]; omega), cond_true]
      show some ((0 : Int), decide ((x.toNat : Int) = 45)) = _
      congr 2
      rw [decide_eq_decide]
      constructor
      · intro h; exact congrArg some (u8_inj (by have : (45 : UInt8).toNat = 45 := rfl
                                                 omega))
      · intro h; injection h with h; rw [h]; rfl
  rw [h1, Option.bind_some]
  have key := loop_fnS (B := fun z3 : Int × Int =>
     bif (decide (z3.1 < (((List.length w) : Nat) : Int))) then ((((Go.Lf.idx w z3.1)).bind fun r4 =>
         bif (decide ((48 : Int) ≤ (((UInt8.toNat r4) : Nat) : Int))) then ((Go.Lf.idx w z3.1)).bind fun r5 =>
         bif (decide ((((UInt8.toNat r5) : Nat) : Int) ≤ (57 : Int))) then some (decide (z3.2 ≤ (2147483647 : Int)))
         else some false
         else some false).bind fun r6 =>
       bif r6 then ((Go.Lf.idx w z3.1)).bind fun r7 =>
       some (Go.IntKind.wrap .i64 ((Go.IntKind.wrap .i64 ((10 : Int) * z3.2)) + (Go.IntKind.wrap .i64 (Go.IntKind.wrap .u8 ((((UInt8.toNat r7) : Nat) : Int) - (48 : Int))))))
       else some z3.2).bind fun r8 =>
     some (.inl ((Go.IntKind.wrap .i64 (z3.1 + (1 : Int))), r8))
     else some (.inr z3.2)) (fun j => (((w.take j).foldl numStep 0 : Nat) : Int)) w.length (((w.foldl numStep 0 : Nat) : Int)) ?_ ?_ w.length 0 (by omega)
  · have key : loopC _ ((0 : Int), (0 : Int)) = _ := key
    rw [key, Option.bind_some]
    have h2 : (bif decide (w.head? = some 45) then some (IntKind.wrap .i64 (0 - ((w.foldl numStep 0 : Nat) : Int))) else some ((w.foldl numStep 0 : Nat) : Int)) = some (numW w) := by
      unfold numW
      by_cases h : w.head? = some 45
      · rw [decide_eq_true h, cond_true, if_pos h, wrapI (by omega) (by omega)]
        congr 1; omega
      · rw [decide_eq_false h, cond_false, if_neg h]
    have hn : -30000000000 ≤ numW w ∧ numW w ≤ 30000000000 := by
      unfold numW
      split <;> omega
    rw [h2, Option.bind_some, itoa_eq (by omega) (by omega), Option.bind_some]
  · intro j hj
    have hg : w[j]? = some w[j] := List.getElem?_eq_getElem hj
    have hx := w[j].toNat_lt
    have hbj := fold_bd (w.take j) 0 (by omega)
    have hstep : (w.take (j + 1)).foldl numStep 0 = numStep ((w.take j).foldl numStep 0) w[j] := by
      rw [List.take_add_one, hg, List.foldl_append]; rfl
    rw [hstep]
    generalize (w.take j).foldl numStep 0 = n at *
    simp only [show (j : Int) < (w.length : Int) by omega, decide_true, cond_true, idx_nat, hg, Option.bind_some]
    unfold numStep
    by_cases c1 : 48 ≤ w[j].toNat
    · by_cases c2 : w[j].toNat ≤ 57
      · by_cases c3 : n ≤ 2147483647
        · rw [if_pos ⟨⟨c1, c2⟩, c3⟩]
          simp only [show (48 : Int) ≤ (w[j].toNat : Int) by omega, show (w[j].toNat : Int) ≤ 57 by omega, show (n : Int) ≤ 2147483647 by omega, decide_true, cond_true, Option.bind_some]
          rw [wrapB (by omega) (by omega), wrapI (x := (w[j].toNat : Int) - 48) (by omega) (by omega), wrapI (x := 10 * (n : Int)) (by omega) (by omega), wrapI (x := 10 * (n : Int) + ((w[j].toNat : Int) - 48)) (by omega) (by omega), wrapS (by omega)]
          congr 3
          omega
        · rw [if_neg (by omega)]
          simp only [show (48 : Int) ≤ (w[j].toNat : Int) by omega, show (w[j].toNat : Int) ≤ 57 by omega, show ¬ (n : Int) ≤ 2147483647 by omega, decide_true, decide_false, cond_true, cond_false, Option.bind_some]
          rw [wrapS (by omega)]
      · rw [if_neg (by omega)]
        simp only [show (48 : Int) ≤ (w[j].toNat : Int) by omega, show ¬ (w[j].toNat : Int) ≤ 57 by omega, decide_true, decide_false, cond_true, cond_false, Option.bind_some]
        rw [wrapS (by omega)]
    · rw [if_neg (by omega)]
      simp only [show ¬ (48 : Int) ≤ (w[j].toNat : Int) by omega, decide_false, cond_false, Option.bind_some]
      rw [wrapS (by omega)]
  · simp only [Int.lt_irrefl, decide_false, cond_false, List.take_length]
theorem numW_itoa {n : Int} (h0 : -2147483648 ≤ n) (h1 : n ≤ 2147483648) : numW (Lib.itoa n) = n := by
  unfold numW
  by_cases h : n < 0
  · rw [itoa_ng h, List.head?_cons, if_pos rfl, List.foldl_cons]
    have : numStep 0 45 = 0 := rfl
    rw [this, num_dd _ (by omega)]
    omega
  · rw [itoa_nn (by omega)]
    have hne : ¬ (Lib.decDigits n.toNat).head? = some 45 := fun e => by
      have hx := dd_digit n.toNat 45 (List.mem_of_mem_head? e)
      have : (45 : UInt8).toNat = 45 := rfl
      omega
    rw [if_neg hne, num_dd _ (by omega)]
    omega

/-! ### words -/
def wsp : List UInt8 → List (List UInt8)
  | [] => [[]]
  | x :: r => if x = 32 then [] :: wsp r else match wsp r with | [] => [[x]] | p :: q => (x :: p) :: q
theorem wsp_sp (r : List UInt8) : wsp (32 :: r) = [] :: wsp r := by rw [wsp, if_pos rfl]
theorem wsp_no {x : UInt8} (r : List UInt8) (h : x ≠ 32) : wsp (x :: r) = match wsp r with | [] => [[x]] | p :: q => (x :: p) :: q := by rw [wsp, if_neg h]
theorem splitK_s (k : Nat) (s : List UInt8) : Lib.splitK [32] 0 (k + 1) s = if Lib.index s [32] == -1 then [s] else s.take ((Lib.index s [32]).toNat + 0) :: Lib.splitK [32] 0 k (s.drop ((Lib.index s [32]).toNat + [32].length)) := rfl
theorem wsp_ne : ∀ l, wsp l ≠ []
  | [] => by simp [wsp]
  | x :: r => by
    unfold wsp
    split
    · simp
    · split <;> simp
theorem wsp_clean : ∀ (w : List UInt8), (∀ x ∈ w, x ≠ 32) → wsp w = [w]
  | [], _ => rfl
  | x :: r, h => by
    unfold wsp
    rw [if_neg (h x List.mem_cons_self), wsp_clean r fun y hy => h y (List.mem_cons_of_mem _ hy)]
theorem wsp_app : ∀ (w r : List UInt8), (∀ x ∈ w, x ≠ 32) → wsp (w ++ 32 :: r) = w :: wsp r
  | [], r, _ => wsp_sp r
  | x :: w, r, h => by
    show wsp (x :: (w ++ 32 :: r)) = _
    rw [wsp_no _ (h x List.mem_cons_self), wsp_app w r fun y hy => h y (List.mem_cons_of_mem _ hy)]
theorem index_cons_ne (b : UInt8) (l : List UInt8) (h : b ≠ 32) : Lib.index (b :: l) [32] = if Lib.index l [32] == -1 then -1 else Lib.index l [32] + 1 := by
  have hp : ([32] : List UInt8).isPrefixOf (b :: l) = false := by simp [List.isPrefixOf, Ne.symm h]
  rw [Lib.index, hp]; simp
theorem split_wsp : ∀ s : List UInt8, Lib.splitK [32] 0 (Lib.count s [32]) s = wsp s
  | [] => by rw [Lib.count_miss (by simp [Lib.index])]; rfl
  | x :: r => by
    have ih := split_wsp r
    by_cases h : x = 32
    · subst h
      have hix : Lib.index (32 :: r) [32] = 0 := by rw [Lib.index]; simp [List.isPrefixOf]
      rw [Lib.count_cons_eq, Nat.add_comm, wsp_sp, ← ih, splitK_s, hix]
      rfl
    · rw [Lib.count_cons_ne x 32 r h, wsp_no r h]
      have hix := index_cons_ne x r h
      have hge := Lib.index_ge r [32]
      cases hk : Lib.count r [32] with
      | zero =>
        rw [hk] at ih
        rw [← ih]; rfl
      | succ k =>
        rw [hk, splitK_s] at ih
        rw [splitK_s]
        by_cases hm : Lib.index r [32] = -1
        · rw [hm] at hix ih
          have hix : Lib.index (x :: r) [32] = -1 := hix
          have ih : [r] = wsp r := ih
          rw [hix, ← ih]; rfl
        · have hb : (Lib.index r [32] == -1) = false := beq_eq_false_iff_ne.2 hm
          rw [hb] at hix ih
          rw [if_neg (by decide)] at hix ih
          rw [hix, beq_eq_false_iff_ne.2 (show Lib.index r [32] + 1 ≠ -1 by omega), if_neg (by decide), ← ih]
          have e1 : (Lib.index r [32] + 1).toNat = (Lib.index r [32]).toNat + 1 := by omega
          simp only [e1, Nat.add_zero, List.take_succ_cons, List.length_cons, List.length_nil]
          rw [show (Lib.index r [32]).toNat + 1 + (0 + 1) = ((Lib.index r [32]).toNat + (0 + 1)) + 1 by omega, List.drop_succ_cons]
theorem splitS_wsp (s : List UInt8) : splitS s [32] = wsp s := by
  unfold splitS
  rw [Lib.splitB_data]
  exact split_wsp s
theorem split_eq2 {s : List UInt8} (h : s.length ≤ 1048576) : strings_Split s [32] = some (wsp s) := by
  unfold strings_Split
  rw [if_pos ⟨by omega, rfl⟩, splitS_wsp]
theorem wsp_len : ∀ s, (wsp s).length ≤ s.length + 1
  | [] => Nat.le_refl _
  | x :: r => by
    have ih := wsp_len r
    unfold wsp
    split
    · simp only [List.length_cons]; omega
    · split
      · simp
      · rename_i p q hq
        rw [hq] at ih
        simp only [List.length_cons] at ih ⊢; omega
theorem wsp_mem : ∀ (s w : List UInt8), w ∈ wsp s → w.length ≤ s.length
  | [], w, h => by
    have : w = [] := by simpa [wsp] using h
    rw [this]; exact Nat.le_refl _
  | x :: r, w, h => by
    have ih := wsp_mem r
    unfold wsp at h
    split at h
    · rcases List.mem_cons.1 h with rfl | h
      · exact Nat.zero_le _
      · have := ih w h
        rw [List.length_cons]; omega
    · split at h
      · rw [List.mem_singleton] at h
        rw [h]; simp
      · rename_i p q hq
        rcases List.mem_cons.1 h with rfl | h
        · have := ih p (by rw [hq]; exact List.mem_cons_self)
          simp only [List.length_cons]; omega
        · have := ih w (by rw [hq]; exact List.mem_cons_of_mem _ h)
          rw [List.length_cons]; omega
/-- with a word begun -/
def wspF (cur : List UInt8) : List UInt8 → List (List UInt8)
  | [] => [cur]
  | x :: r => if x = 32 then cur :: wspF [] r else wspF (cur ++ [x]) r
theorem wspF_eq : ∀ (s cur : List UInt8), wspF cur s = match wsp s with | [] => [cur] | p :: q => (cur ++ p) :: q
  | [], cur => by simp [wspF, wsp]
  | x :: r, cur => by
    unfold wspF wsp
    by_cases h : x = 32
    · rw [if_pos h, if_pos h, wspF_eq r []]
      cases hw : wsp r with
      | nil => exact absurd hw (wsp_ne r)
      | cons p q => simp
    · rw [if_neg h, if_neg h, wspF_eq r]
      cases hw : wsp r with
      | nil => simp
      | cons p q => simp
theorem words_eq (s : List UInt8) (hs : s.length ≤ 1048576) : folioref16_words s = some (wsp s) := by
  unfold folioref16_words
  have key : ∀ (B : Int × (Int × List (List UInt8)) → Option ((Int × (Int × List (List UInt8))) ⊕ List (List UInt8)))
      (hB : ∀ z1, B z1 = bif (decide (z1.1 ≤ (((List.length s) : Nat) : Int))) then ((bif (!(decide ((z1.1 : Int) = (((List.length s) : Nat) : Int)))) then ((Go.Lf.idx s z1.1)).bind fun r2 =>
         some ((decide (((((UInt8.toNat r2) : Nat) : Int) : Int) = (32 : Int))), z1.2.2)
         else some (true, z1.2.2)).bind fun r3 =>
       bif r3.1 then ((Go.Lf.sub s z1.2.1 z1.1)).bind fun r4 =>
       ((Go.Lf.app (16 : Nat) r3.2 (r4 :: ([] : List (List (UInt8)))))).bind fun r5 =>
       some ((Go.IntKind.wrap .i64 (z1.1 + (1 : Int))), r5)
       else some (z1.2.1, r3.2)).bind fun r6 =>
     some (.inl ((Go.IntKind.wrap .i64 (z1.1 + (1 : Int))), (r6.1, r6.2)))
     else some (.inr z1.2.2)) (m i from_ : Nat) (out : List (List UInt8)), i + m = s.length → from_ ≤ i → out.length ≤ i →
        loopC B ((i : Int), ((from_ : Int), out)) = some (out ++ wspF ((s.drop from_).take (i - from_)) (s.drop i)) := by
    intro B hB m
    induction m with
    | zero =>
      intro i from_ out hi hf ho
      have hi : i = s.length := by omega
      subst hi
      rw [loopC_step, hB]
      simp only [Int.le_refl, decide_true, cond_true, Bool.not_true, cond_false, Option.bind_some]
      rw [sub_nat hf (Nat.le_refl _), Option.bind_some, app_of (by simp only [List.length_cons, List.length_nil]; omega), Option.bind_some, Option.bind_some, wrapS (by omega)]
      show loopC B _ = _
      rw [loopC_step, hB]
      simp only [show ¬ (((s.length + 1 : Nat) : Int) ≤ (s.length : Int)) by omega, decide_false, cond_false, Option.bind_some]
      rw [List.drop_length]; rfl
    | succ m ih =>
      intro i from_ out hi hf ho
      have hlt : i < s.length := by omega
      have hg : s[i]? = some s[i] := List.getElem?_eq_getElem hlt
      rw [loopC_step, hB]
      simp only [show (i : Int) ≤ (s.length : Int) by omega, show ¬ (i : Int) = (s.length : Int) by omega, decide_true, decide_false, cond_true, Bool.not_false, idx_nat, hg, Option.bind_some]
      rw [drop_cons hg]
      unfold wspF
      by_cases h : s[i] = 32
      · have hd : decide ((s[i].toNat : Int) = 32) = true := by rw [h]; rfl
        rw [hd, cond_true, sub_nat hf (by omega), Option.bind_some, app_of (by simp only [List.length_cons, List.length_nil]; omega), Option.bind_some, Option.bind_some, wrapS (by omega), if_pos h]
        have := ih (i + 1) (i + 1) (out ++ [(s.drop from_).take (i - from_)]) (by omega) (Nat.le_refl _) (by simp only [List.length_append, List.length_cons, List.length_nil]; omega)
        rw [Nat.sub_self, List.take_zero, List.append_assoc] at this
        exact this
      · have hd : decide ((s[i].toNat : Int) = 32) = false := by
          rw [decide_eq_false_iff_not]
          intro e
          exact h (u8_inj (by have : (32 : UInt8).toNat = 32 := rfl
                              omega))
        rw [hd, cond_false, Option.bind_some, wrapS (by omega), if_neg h]
        have := ih (i + 1) from_ out (by omega) (by omega) (by omega)
        have e1 : (s.drop from_).take (i + 1 - from_) = (s.drop from_).take (i - from_) ++ [s[i]] := by
          rw [show i + 1 - from_ = (i - from_) + 1 by omega, List.take_add_one, List.getElem?_drop, show from_ + (i - from_) = i by omega, hg]; rfl
        rw [e1] at this
        exact this
  have k := key _ (fun _ => rfl) s.length 0 0 [] (by omega) (Nat.le_refl _) (Nat.le_refl _)
  have k : loopC _ ((0 : Int), ((0 : Int), ([] : List (List UInt8)))) = _ := k
  rw [k, Option.bind_some]
  congr 1
  rw [List.nil_append, List.drop_zero, Nat.sub_self, List.take_zero, wspF_eq]
  cases hw : wsp s with
  | nil => exact absurd hw (wsp_ne s)
  | cons p q => simp
end Go.Fn
