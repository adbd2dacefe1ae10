import Derived.Test.YtkfcinmgebhbhaaDoorProg
import Derived.KernelRfl
import Derived.Test.YtkfcinmgebhbhaaDoorQFuel
import Derived.Test.YtkfcinmgebhbhaaDoorQFn
open Go Go.Lf
set_option maxRecDepth 10000
namespace Go.Fn
def Tys2 : List (Nat × Go.Lf.TyI) := [(2, ⟨(.int .i64), 0, 0⟩),
 (3, ⟨(.int .i64), 0, 0⟩),
 (4, ⟨.bool, 0, 0⟩),
 (5, ⟨(.int .u8), 0, 0⟩),
 (6, ⟨(.int .u8), 0, 0⟩),
 (7, ⟨(.st (.pr (.int .i64) (.pr (.int .i64) (.pr .bool (.pr (.int .u8) .unit))))), 0, 0⟩),
 (8, ⟨(.st (.pr (.int .i64) (.pr (.int .i64) (.pr .bool (.pr (.int .u8) .unit))))), 0, 0⟩),
 (9, ⟨.str, 0, 0⟩),
 (10, ⟨.str, 0, 0⟩),
 (11, ⟨.str, 0, 0⟩),
 (12, ⟨(.int .u64), 0, 0⟩),
 (13, ⟨(.st (.pr .str (.pr (.int .u64) .unit))), 0, 0⟩),
 (14, ⟨(.st (.pr .str (.pr (.int .u64) .unit))), 0, 0⟩),
 (21, ⟨(.int .i32), 0, 0⟩),
 (22, ⟨(.sl (.st (.pr .str (.pr .str (.pr (.st (.pr (.int .i64) (.pr (.int .i64) (.pr (.int .i64) .unit)))) .unit))))), 29, 56⟩),
 (26, ⟨(.st (.pr (.int .i64) (.pr (.int .i64) (.pr (.int .i64) .unit)))), 0, 0⟩),
 (27, ⟨(.st (.pr (.int .i64) (.pr (.int .i64) (.pr (.int .i64) .unit)))), 0, 0⟩),
 (28, ⟨(.st (.pr .str (.pr .str (.pr (.st (.pr (.int .i64) (.pr (.int .i64) (.pr (.int .i64) .unit)))) .unit)))), 0, 0⟩),
 (29, ⟨(.st (.pr .str (.pr .str (.pr (.st (.pr (.int .i64) (.pr (.int .i64) (.pr (.int .i64) .unit)))) .unit)))), 0, 0⟩),
 (30, ⟨(.int .i64), 0, 0⟩),
 (39, ⟨(.st (.pr (.int .i64) (.pr (.int .i64) .unit))), 0, 0⟩),
 (40, ⟨(.st (.pr (.int .i64) (.pr (.int .i64) .unit))), 0, 0⟩),
 (46, ⟨(.sl .str), 9, 16⟩),
 (68, ⟨(.sl (.int .i64)), 3, 8⟩),
 (89, ⟨(.st (.pr .str (.pr .str .unit))), 9, 2⟩),
 (90, ⟨(.st (.pr (.int .i64) (.pr (.int .i64) .unit))), 3, 2⟩),
 (94, ⟨(.sl (.st (.pr (.int .i64) (.pr (.int .i64) .unit)))), 96, 16⟩),
 (95, ⟨(.st (.pr (.int .i64) (.pr (.int .i64) .unit))), 0, 0⟩),
 (96, ⟨(.st (.pr (.int .i64) (.pr (.int .i64) .unit))), 0, 0⟩),
 (98, ⟨(.eb 111 .unit), 0, 0⟩),
 (101, ⟨(.int .u64), 0, 0⟩),
 (107, ⟨(.int .i64), 0, 0⟩),
 (108, ⟨(.sl (.int .u8)), 5, 1⟩),
 (114, ⟨(.st (.pr (.int .u8) (.pr (.int .u8) (.pr (.int .u8) (.pr (.int .u8) (.pr (.int .u8) (.pr (.int .u8) (.pr (.int .u8) (.pr (.int .u8) (.pr (.int .u8) (.pr (.int .u8) (.pr (.int .u8) (.pr (.int .u8) (.pr (.int .u8) (.pr (.int .u8) (.pr (.int .u8) (.pr (.int .u8) (.pr (.int .u8) (.pr (.int .u8) (.pr (.int .u8) (.pr (.int .u8) (.pr (.int .u8) (.pr (.int .u8) (.pr (.int .u8) (.pr (.int .u8) .unit))))))))))))))))))))))))), 5, 24⟩),
 (115, ⟨(.int .u64), 0, 0⟩),
 (120, ⟨(.int .u32), 0, 0⟩),
 (126, ⟨(.st (.pr .str (.pr .str (.pr (.eb 111 .unit) .unit)))), 0, 0⟩),
 (127, ⟨(.st (.pr .str (.pr .str (.pr (.eb 111 .unit) .unit)))), 0, 0⟩),
 (130, ⟨(.st (.pr (.int .u64) (.pr (.int .u64) (.pr (.int .u64) (.pr (.int .u64) (.pr (.int .u64) (.pr (.int .u64) (.pr (.int .u64) (.pr (.int .u64) (.pr (.int .u64) (.pr (.int .u64) (.pr (.int .u64) (.pr (.int .u64) (.pr (.int .u64) (.pr (.int .u64) (.pr (.int .u64) (.pr (.int .u64) (.pr (.int .u64) (.pr (.int .u64) (.pr (.int .u64) (.pr (.int .u64) .unit))))))))))))))))))))), 115, 20⟩),
 (137, ⟨(.st (.pr .str .unit)), 0, 0⟩),
 (138, ⟨(.st (.pr .str .unit)), 0, 0⟩)]
theorem Tys2_ok : ∀ id i, Go.Lf.look Tys2 id = some i → Go.Lf.TyOk Go.Proofs.Tryd.prog id i := Go.Lf.tysB_ok (by kernel_rfl)
noncomputable def folioref06_wordsCtx : Go.Lf.Ctx := ⟨35, Tys2, [], [2, 3, 25, 34], [], [(2, (.rw 9 .str)), (3, (.rw 9 .str)), (25, (.rw 9 .str)), (34, (.rw 9 .str))]⟩
noncomputable def folioref06_wordsCode : Go.Code := (Go.Proofs.Tryd.f51.body).getD .skip
def folioref06_wordsAnn : Go.Lf.Ann := (.seq .no (.seq .no (.seq .no (.seq (.seq .no (.loop ⟨[0], [], [(5, (.int .i64)), (4, (.int .i64)), (3, (.rw 9 .str))], []⟩ (.one (.ext 0) ⟨[], [], [(3, (.rw 9 .str))], []⟩) (.seq .no (.seq (.join (.one .nrm ⟨[0, 5], [], [(4, (.int .i64)), (3, (.rw 9 .str))], []⟩) (.seq (.seq (.join (.one .nrm ⟨[4, 0, 5], [], [(21, .bool), (3, (.rw 9 .str))], []⟩) .no) .no) (.seq (.join (.one .nrm ⟨[0, 5], [], [(3, (.rw 9 .str))], []⟩) .no) .no))) .no)))) .no))))
noncomputable def folioref06_words (a0 : List (UInt8)) : Option (List (List (UInt8))) :=
 (Go.Lf.loopC (σ := (Int) × ((Int) × (List (List (UInt8))))) (κ := List (List (UInt8))) (fun z1 =>
     bif (decide (z1.1 ≤ (((List.length a0) : Nat) : Int))) then ((bif (decide (z1.1 < (((List.length a0) : Nat) : Int))) then ((Go.Lf.idx a0 z1.1)).bind fun r2 =>
         some ((decide (((((UInt8.toNat r2) : Nat) : Int) : Int) ≠ (32 : Int))), z1.2.2)
         else some (false, z1.2.2)).bind fun r3 =>
       bif r3.1 then some (z1.2.1, r3.2)
       else (bif (decide (z1.2.1 < z1.1)) then ((Go.Lf.sub a0 z1.2.1 z1.1)).bind fun r4 =>
         ((Go.Lf.app (16 : Nat) r3.2 (r4 :: ([] : List (List (UInt8)))))).bind fun r5 =>
         some r5
         else some r3.2).bind fun r6 =>
       some ((Go.IntKind.wrap .i64 (z1.1 + (1 : Int))), r6)).bind fun r7 =>
     some (.inl ((Go.IntKind.wrap .i64 (z1.1 + (1 : Int))), (r7.1, r7.2)))
     else some (.inr z1.2.2)) ((0 : Int), ((0 : Int), ([] : List (List (UInt8))))) : Option (List (List (UInt8)))).bind fun r8 =>
 some r8
theorem folioref06_words_eq (a0 : List (UInt8)) : Go.Lf.fnE folioref06_wordsCtx folioref06_wordsCode folioref06_wordsAnn [.val .str] [(.rw 9 .str)] [.tmp 2] (a0) = folioref06_words a0 := by kernel_rfl
noncomputable def folioref06_wordsEnt : Nat × Go.Lf.Entry := (51, ⟨[.val .str], [(.rw 9 .str)], fun z => folioref06_words z⟩)
theorem folioref06_words_ok : Go.Lf.EntryOk Go.Proofs.Tryd.prog GG 51 folioref06_wordsEnt.2 :=
  Go.Lf.fn_ok (c := folioref06_wordsCtx) (code := folioref06_wordsCode) (an := folioref06_wordsAnn) (slots := [.tmp 2]) (fn := Go.Proofs.Tryd.f51) (by kernel_rfl) ⟨Tys2_ok, Go.Lf.FnsOk.look .nil⟩ (by kernel_rfl) (by kernel_rfl) (by kernel_rfl) (by kernel_rfl) (by kernel_rfl) (Nat.le_of_ble_eq_true rfl) (by simp [Go.Lf.Ty.top]) (by simp [Go.Lf.Ty.top]) fun z r h => (folioref06_words_eq z).trans h
noncomputable def folioref06_NoneCtx : Go.Lf.Ctx := ⟨2, Tys2, [], [], [], []⟩
noncomputable def folioref06_NoneCode : Go.Code := (Go.Proofs.Tryd.f52.body).getD .skip
def folioref06_NoneAnn : Go.Lf.Ann := .no
noncomputable def folioref06_None  : Option ((Int) × ((Int) × ((Int) × (Unit)))) :=
 some ((0 : Int), ((0 : Int), ((-(1 : Int)), ())))
theorem folioref06_None_eq  : Go.Lf.fnE folioref06_NoneCtx folioref06_NoneCode folioref06_NoneAnn [] [(.st (.pr (.int .i64) (.pr (.int .i64) (.pr (.int .i64) .unit))))] [.cell 0 27] () = folioref06_None  := by kernel_rfl
noncomputable def folioref06_NoneEnt : Nat × Go.Lf.Entry := (52, ⟨[], [(.st (.pr (.int .i64) (.pr (.int .i64) (.pr (.int .i64) .unit))))], fun _ => folioref06_None ⟩)
theorem folioref06_None_ok : Go.Lf.EntryOk Go.Proofs.Tryd.prog GG 52 folioref06_NoneEnt.2 :=
  Go.Lf.fn_ok (c := folioref06_NoneCtx) (code := folioref06_NoneCode) (an := folioref06_NoneAnn) (slots := [.cell 0 27]) (fn := Go.Proofs.Tryd.f52) (by kernel_rfl) ⟨Tys2_ok, Go.Lf.FnsOk.look .nil⟩ (by kernel_rfl) (by kernel_rfl) (by kernel_rfl) (by kernel_rfl) (by kernel_rfl) (Nat.le_of_ble_eq_true rfl) (by simp [Go.Lf.Ty.top]) (by simp [Go.Lf.Ty.top]) fun z r h => (folioref06_None_eq ).trans h
noncomputable def folioref06_NameCtx : Go.Lf.Ctx := ⟨28, Tys2, [], [], [], []⟩
noncomputable def folioref06_NameCode : Go.Code := (Go.Proofs.Tryd.f39.body).getD .skip
def folioref06_NameAnn : Go.Lf.Ann := (.seq .no (.seq (.seq .no (.loop ⟨[0], [], [(3, (.int .i64))], []⟩ (.more (.ext 0) ⟨[0], [], [], []⟩ (.one .ret ⟨[], [], [(2, .bool)], []⟩)) (.seq .no (.seq (.seq (.join (.one .nrm ⟨[0, 3], [], [(19, .bool)], []⟩) .no) .no) .no)))) (.seq (.join (.one .nrm ⟨[], [], [(2, .bool)], []⟩) .no) .no)))
noncomputable def folioref06_Name (a0 : List (UInt8)) : Option (Bool) :=
 (Go.Lf.loopC (σ := Int) (κ := (Unit) ⊕ (Bool)) (fun z1 =>
     bif (decide (z1 < (((List.length a0) : Nat) : Int))) then (((Go.Lf.idx a0 z1)).bind fun r2 =>
       bif (!(decide ((((UInt8.toNat r2) : Nat) : Int) < (97 : Int)))) then ((Go.Lf.idx a0 z1)).bind fun r3 =>
       some (decide ((122 : Int) < (((UInt8.toNat r3) : Nat) : Int)))
       else some true).bind fun r4 =>
     bif r4 then some (.inr (.inr false))
     else some (.inl (Go.IntKind.wrap .i64 (z1 + (1 : Int))))
     else some (.inr (.inl ()))) (0 : Int) : Option ((Unit) ⊕ (Bool))).bind fun r5 =>
 Go.Lf.onSum r5 (fun a6 =>
 (bif (decide ((1 : Int) ≤ (((List.length a0) : Nat) : Int))) then some (decide ((((List.length a0) : Nat) : Int) ≤ (12 : Int)))
   else some false).bind fun r7 =>
 some r7) (fun b8 =>
 some b8)
theorem folioref06_Name_eq (a0 : List (UInt8)) : Go.Lf.fnE folioref06_NameCtx folioref06_NameCode folioref06_NameAnn [.val .str] [.bool] [.tmp 2] (a0) = folioref06_Name a0 := by kernel_rfl
noncomputable def folioref06_NameEnt : Nat × Go.Lf.Entry := (39, ⟨[.val .str], [.bool], fun z => folioref06_Name z⟩)
theorem folioref06_Name_ok : Go.Lf.EntryOk Go.Proofs.Tryd.prog GG 39 folioref06_NameEnt.2 :=
  Go.Lf.fn_ok (c := folioref06_NameCtx) (code := folioref06_NameCode) (an := folioref06_NameAnn) (slots := [.tmp 2]) (fn := Go.Proofs.Tryd.f39) (by kernel_rfl) ⟨Tys2_ok, Go.Lf.FnsOk.look .nil⟩ (by kernel_rfl) (by kernel_rfl) (by kernel_rfl) (by kernel_rfl) (by kernel_rfl) (Nat.le_of_ble_eq_true rfl) (by simp [Go.Lf.Ty.top]) (by simp [Go.Lf.Ty.top]) fun z r h => (folioref06_Name_eq z).trans h
noncomputable def folioref06_namesCtx : Go.Lf.Ctx := ⟨37, Tys2, [folioref06_NameEnt], [], [], []⟩
noncomputable def folioref06_namesCode : Go.Code := (Go.Proofs.Tryd.f53.body).getD .skip
def folioref06_namesAnn : Go.Lf.Ann := (.seq .no (.seq (.seq .no (.loop ⟨[0], [], [(5, (.int .i64))], []⟩ (.more (.ext 0) ⟨[0], [], [], []⟩ (.one .ret ⟨[], [], [(2, .str), (3, .str), (4, .bool)], []⟩)) (.seq .no (.seq (.seq .no (.cnd (.seq (.join (.one .nrm ⟨[], [], [(2, .str), (3, .str), (4, .bool)], []⟩) (.draw 21)) .no) .no)) .no)))) .no))
noncomputable def folioref06_names (a0 : List (UInt8)) : Option ((List (UInt8)) × ((List (UInt8)) × (Bool))) :=
 (Go.Lf.loopC (σ := Int) (κ := (Unit) ⊕ ((List (UInt8)) × ((List (UInt8)) × (Bool)))) (fun z1 =>
     bif (decide (z1 < (((List.length a0) : Nat) : Int))) then ((Go.Lf.idx a0 z1)).bind fun r2 =>
     bif (decide (((((UInt8.toNat r2) : Nat) : Int) : Int) = (58 : Int))) then (((Go.Lf.sub a0 (0 : Int) z1)).bind fun r3 =>
       ((Go.Lf.sub a0 (Go.IntKind.wrap .i64 (z1 + (1 : Int))) (((List.length a0) : Nat) : Int))).bind fun r4 =>
       ((Go.Lf.sub a0 (0 : Int) z1)).bind fun r5 =>
       ((Go.Fn.folioref06_Name r5)).bind fun r6 =>
       bif r6 then ((Go.Lf.sub a0 (Go.IntKind.wrap .i64 (z1 + (1 : Int))) (((List.length a0) : Nat) : Int))).bind fun r7 =>
       ((Go.Fn.folioref06_Name r7)).bind fun r8 =>
       some (r3, (r4, r8))
       else some (r3, (r4, false))).bind fun r9 =>
     some (.inr (.inr (r9.1, (r9.2.1, r9.2.2))))
     else some (.inl (Go.IntKind.wrap .i64 (z1 + (1 : Int))))
     else some (.inr (.inl ()))) (0 : Int) : Option ((Unit) ⊕ ((List (UInt8)) × ((List (UInt8)) × (Bool))))).bind fun r10 =>
 Go.Lf.onSum r10 (fun a11 =>
 ((Go.Fn.folioref06_Name a0)).bind fun r12 =>
 some (a0, (([] : List (UInt8)), r12))) (fun b13 =>
 some (b13.1, (b13.2.1, b13.2.2)))
theorem folioref06_names_eq (a0 : List (UInt8)) : Go.Lf.fnE folioref06_namesCtx folioref06_namesCode folioref06_namesAnn [.val .str] [.str, .str, .bool] [.tmp 2, .tmp 3, .tmp 4] (a0) = folioref06_names a0 := by kernel_rfl
noncomputable def folioref06_namesEnt : Nat × Go.Lf.Entry := (53, ⟨[.val .str], [.str, .str, .bool], fun z => folioref06_names z⟩)
theorem folioref06_names_ok : Go.Lf.EntryOk Go.Proofs.Tryd.prog GG 53 folioref06_namesEnt.2 :=
  Go.Lf.fn_ok (c := folioref06_namesCtx) (code := folioref06_namesCode) (an := folioref06_namesAnn) (slots := [.tmp 2, .tmp 3, .tmp 4]) (fn := Go.Proofs.Tryd.f53) (by kernel_rfl) ⟨Tys2_ok, Go.Lf.FnsOk.look (.con folioref06_Name_ok .nil)⟩ (by kernel_rfl) (by kernel_rfl) (by kernel_rfl) (by kernel_rfl) (by kernel_rfl) (Nat.le_of_ble_eq_true rfl) (by simp [Go.Lf.Ty.top]) (by simp [Go.Lf.Ty.top]) fun z r h => (folioref06_names_eq z).trans h
noncomputable def folioref06_colorCtx : Go.Lf.Ctx := ⟨14, Tys2, [strconv_ItoaEnt], [], [], []⟩
noncomputable def folioref06_colorCode : Go.Code := (Go.Proofs.Tryd.f54.body).getD .skip
def folioref06_colorAnn : Go.Lf.Ann := (.seq .no (.seq (.seq .no (.loop ⟨[0], [], [(4, (.int .i64))], []⟩ (.more (.ext 0) ⟨[], [], [], []⟩ (.one .ret ⟨[], [], [(2, (.int .i64)), (3, .bool)], []⟩)) .no)) .no))
noncomputable def folioref06_color (a0 : List (UInt8)) : Option ((Int) × (Bool)) :=
 (Go.Lf.loopC (σ := Int) (κ := (Unit) ⊕ ((Int) × (Bool))) (fun z1 =>
     bif (decide (z1 ≤ (15 : Int))) then ((Go.Fn.strconv_Itoa z1)).bind fun r2 =>
     bif (decide ((r2 : List (UInt8)) = a0)) then some (.inr (.inr (z1, true)))
     else some (.inl (Go.IntKind.wrap .i64 (z1 + (1 : Int))))
     else some (.inr (.inl ()))) (0 : Int) : Option ((Unit) ⊕ ((Int) × (Bool)))).bind fun r3 =>
 Go.Lf.onSum r3 (fun a4 =>
 some ((0 : Int), false)) (fun b5 =>
 some (b5.1, b5.2))
theorem folioref06_color_eq (a0 : List (UInt8)) : Go.Lf.fnE folioref06_colorCtx folioref06_colorCode folioref06_colorAnn [.val .str] [(.int .i64), .bool] [.tmp 2, .tmp 3] (a0) = folioref06_color a0 := by kernel_rfl
noncomputable def folioref06_colorEnt : Nat × Go.Lf.Entry := (54, ⟨[.val .str], [(.int .i64), .bool], fun z => folioref06_color z⟩)
theorem folioref06_color_ok : Go.Lf.EntryOk Go.Proofs.Tryd.prog GG 54 folioref06_colorEnt.2 :=
  Go.Lf.fn_ok (c := folioref06_colorCtx) (code := folioref06_colorCode) (an := folioref06_colorAnn) (slots := [.tmp 2, .tmp 3]) (fn := Go.Proofs.Tryd.f54) (by kernel_rfl) ⟨Tys2_ok, Go.Lf.FnsOk.look (.con strconv_Itoa_ok .nil)⟩ (by kernel_rfl) (by kernel_rfl) (by kernel_rfl) (by kernel_rfl) (by kernel_rfl) (Nat.le_of_ble_eq_true rfl) (by simp [Go.Lf.Ty.top]) (by simp [Go.Lf.Ty.top]) fun z r h => (folioref06_color_eq z).trans h
noncomputable def folioref06_WordsCtx : Go.Lf.Ctx := ⟨2, Tys2, [], [0], [], [(0, (.rw 9 .str))]⟩
noncomputable def folioref06_WordsCode : Go.Code := (Go.Proofs.Tryd.f61.body).getD .skip
def folioref06_WordsAnn : Go.Lf.Ann := .no
noncomputable def folioref06_Words  : Option (List (List (UInt8))) :=
 some (((98 : UInt8) :: ((111 : UInt8) :: ((108 : UInt8) :: ((100 : UInt8) :: ([] : List (UInt8)))))) :: (((105 : UInt8) :: ((116 : UInt8) :: ((97 : UInt8) :: ((108 : UInt8) :: ((105 : UInt8) :: ((99 : UInt8) :: ([] : List (UInt8)))))))) :: (((117 : UInt8) :: ((110 : UInt8) :: ((100 : UInt8) :: ((101 : UInt8) :: ((114 : UInt8) :: ([] : List (UInt8))))))) :: (((115 : UInt8) :: ((116 : UInt8) :: ((114 : UInt8) :: ((105 : UInt8) :: ((107 : UInt8) :: ((101 : UInt8) :: ([] : List (UInt8)))))))) :: (((109 : UInt8) :: ((111 : UInt8) :: ((110 : UInt8) :: ((111 : UInt8) :: ([] : List (UInt8)))))) :: (((115 : UInt8) :: ((109 : UInt8) :: ((97 : UInt8) :: ((108 : UInt8) :: ((108 : UInt8) :: ([] : List (UInt8))))))) :: (((114 : UInt8) :: ((101 : UInt8) :: ((118 : UInt8) :: ((101 : UInt8) :: ((114 : UInt8) :: ((115 : UInt8) :: ((101 : UInt8) :: ([] : List (UInt8))))))))) :: ([] : List (List (UInt8))))))))))
theorem folioref06_Words_eq  : Go.Lf.fnE folioref06_WordsCtx folioref06_WordsCode folioref06_WordsAnn [] [(.rw 9 .str)] [.tmp 0] () = folioref06_Words  := by kernel_rfl
noncomputable def folioref06_WordsEnt : Nat × Go.Lf.Entry := (61, ⟨[], [(.rw 9 .str)], fun _ => folioref06_Words ⟩)
theorem folioref06_Words_ok : Go.Lf.EntryOk Go.Proofs.Tryd.prog GG 61 folioref06_WordsEnt.2 :=
  Go.Lf.fn_ok (c := folioref06_WordsCtx) (code := folioref06_WordsCode) (an := folioref06_WordsAnn) (slots := [.tmp 0]) (fn := Go.Proofs.Tryd.f61) (by kernel_rfl) ⟨Tys2_ok, Go.Lf.FnsOk.look .nil⟩ (by kernel_rfl) (by kernel_rfl) (by kernel_rfl) (by kernel_rfl) (by kernel_rfl) (Nat.le_of_ble_eq_true rfl) (by simp [Go.Lf.Ty.top]) (by simp [Go.Lf.Ty.top]) fun z r h => (folioref06_Words_eq ).trans h
noncomputable def folioref06_bitCtx : Go.Lf.Ctx := ⟨21, Tys2, [folioref06_WordsEnt], [], [], []⟩
noncomputable def folioref06_bitCode : Go.Code := (Go.Proofs.Tryd.f55.body).getD .skip
def folioref06_bitAnn : Go.Lf.Ann := (.seq .no (.seq .no (.seq (.seq .no (.loop ⟨[0, 3], [], [(4, (.int .i64))], []⟩ (.more (.ext 0) ⟨[], [], [], []⟩ (.one .ret ⟨[], [], [(2, (.int .i64))], []⟩)) .no)) .no)))
noncomputable def folioref06_bit (a0 : List (UInt8)) : Option (Int) :=
 (Go.Fn.folioref06_Words).bind fun r1 =>
 (Go.Lf.loopC (σ := Int) (κ := (Unit) ⊕ (Int)) (fun z2 =>
     bif (decide (z2 < (((List.length r1) : Nat) : Int))) then ((Go.Lf.idx r1 z2)).bind fun r3 =>
     bif (decide ((r3 : List (UInt8)) = a0)) then ((Go.Lf.nn (Go.IntKind.wrap .u64 z2) (Go.IntKind.wrap .i64 ((1 : Int) * ((2 : Int) ^ (Min.min (Int.toNat (Go.IntKind.wrap .u64 z2)) (64 : Nat))))))).bind fun r4 =>
     some (.inr (.inr r4))
     else some (.inl (Go.IntKind.wrap .i64 (z2 + (1 : Int))))
     else some (.inr (.inl ()))) (0 : Int) : Option ((Unit) ⊕ (Int))).bind fun r5 =>
 Go.Lf.onSum r5 (fun a6 =>
 some (0 : Int)) (fun b7 =>
 some b7)
theorem folioref06_bit_eq (a0 : List (UInt8)) : Go.Lf.fnE folioref06_bitCtx folioref06_bitCode folioref06_bitAnn [.val .str] [(.int .i64)] [.tmp 2] (a0) = folioref06_bit a0 := by kernel_rfl
noncomputable def folioref06_bitEnt : Nat × Go.Lf.Entry := (55, ⟨[.val .str], [(.int .i64)], fun z => folioref06_bit z⟩)
theorem folioref06_bit_ok : Go.Lf.EntryOk Go.Proofs.Tryd.prog GG 55 folioref06_bitEnt.2 :=
  Go.Lf.fn_ok (c := folioref06_bitCtx) (code := folioref06_bitCode) (an := folioref06_bitAnn) (slots := [.tmp 2]) (fn := Go.Proofs.Tryd.f55) (by kernel_rfl) ⟨Tys2_ok, Go.Lf.FnsOk.look (.con folioref06_Words_ok .nil)⟩ (by kernel_rfl) (by kernel_rfl) (by kernel_rfl) (by kernel_rfl) (by kernel_rfl) (Nat.le_of_ble_eq_true rfl) (by simp [Go.Lf.Ty.top]) (by simp [Go.Lf.Ty.top]) fun z r h => (folioref06_bit_eq z).trans h
noncomputable def folioref06_ParseCtx : Go.Lf.Ctx := ⟨136, Tys2, [folioref06_wordsEnt, folioref06_NoneEnt, folioref06_namesEnt, folioref06_colorEnt, folioref06_bitEnt], [], [], []⟩
noncomputable def folioref06_ParseCode : Go.Code := (Go.Proofs.Tryd.f32.body).getD .skip
def folioref06_ParseAnn : Go.Lf.Ann := (.seq .no (.seq .no (.seq .no (.seq .no (.seq .no (.seq .no (.seq .no (.seq (.seq .no (.loop ⟨[4], [(5, 5, [], 0), (2, 2, [], 0)], [(9, (.int .i64)), (8, .bool)], [(5, 29, (.st (.pr .str (.pr .str (.pr (.st (.pr (.int .i64) (.pr (.int .i64) (.pr (.int .i64) .unit)))) .unit))))), (2, 29, (.st (.pr .str (.pr .str (.pr (.st (.pr (.int .i64) (.pr (.int .i64) (.pr (.int .i64) .unit)))) .unit)))))]⟩ (.one (.ext 0) ⟨[], [(2, 2, [], 0), (5, 5, [], 0)], [(8, .bool)], [(2, 29, (.st (.pr .str (.pr .str (.pr (.st (.pr (.int .i64) (.pr (.int .i64) (.pr (.int .i64) .unit)))) .unit))))), (5, 29, (.st (.pr .str (.pr .str (.pr (.st (.pr (.int .i64) (.pr (.int .i64) (.pr (.int .i64) .unit)))) .unit)))))]⟩) (.seq (.seq (.join (.one .nrm ⟨[4, 9, 8], [(5, 5, [], 0), (2, 2, [], 0)], [(42, .bool)], [(5, 29, (.st (.pr .str (.pr .str (.pr (.st (.pr (.int .i64) (.pr (.int .i64) (.pr (.int .i64) .unit)))) .unit))))), (2, 29, (.st (.pr .str (.pr .str (.pr (.st (.pr (.int .i64) (.pr (.int .i64) (.pr (.int .i64) .unit)))) .unit)))))]⟩) .no) .no) (.seq (.join (.one .nrm ⟨[4], [(5, 5, [], 0), (2, 2, [], 0)], [(8, .bool), (9, (.int .i64))], [(5, 29, (.st (.pr .str (.pr .str (.pr (.st (.pr (.int .i64) (.pr (.int .i64) (.pr (.int .i64) .unit)))) .unit))))), (2, 29, (.st (.pr .str (.pr .str (.pr (.st (.pr (.int .i64) (.pr (.int .i64) (.pr (.int .i64) .unit)))) .unit)))))]⟩) (.seq .no (.cnd (.seq .no (.seq (.join (.one .nrm ⟨[4, 9, 10], [(5, 5, [], 0), (2, 2, [], 0)], [(8, .bool)], [(5, 29, (.st (.pr .str (.pr .str (.pr (.st (.pr (.int .i64) (.pr (.int .i64) (.pr (.int .i64) .unit)))) .unit))))), (2, 29, (.st (.pr .str (.pr .str (.pr (.st (.pr (.int .i64) (.pr (.int .i64) (.pr (.int .i64) .unit)))) .unit)))))]⟩) .no) (.seq (.join (.one .nrm ⟨[4, 9], [(5, 5, [], 0), (2, 2, [], 0)], [(8, .bool), (10, (.int .i64))], [(5, 29, (.st (.pr .str (.pr .str (.pr (.st (.pr (.int .i64) (.pr (.int .i64) (.pr (.int .i64) .unit)))) .unit))))), (2, 29, (.st (.pr .str (.pr .str (.pr (.st (.pr (.int .i64) (.pr (.int .i64) (.pr (.int .i64) .unit)))) .unit)))))]⟩) .no) .no))) (.seq (.join (.one .nrm ⟨[4, 9], [(5, 5, [], 0), (2, 2, [], 0)], [(77, .bool)], [(5, 29, (.st (.pr .str (.pr .str (.pr (.st (.pr (.int .i64) (.pr (.int .i64) (.pr (.int .i64) .unit)))) .unit))))), (2, 29, (.st (.pr .str (.pr .str (.pr (.st (.pr (.int .i64) (.pr (.int .i64) (.pr (.int .i64) .unit)))) .unit)))))]⟩) .no) (.cnd (.seq .no (.seq (.join (.one .nrm ⟨[4, 9, 11], [(5, 5, [], 0), (2, 2, [], 0)], [(8, .bool)], [(5, 29, (.st (.pr .str (.pr .str (.pr (.st (.pr (.int .i64) (.pr (.int .i64) (.pr (.int .i64) .unit)))) .unit))))), (2, 29, (.st (.pr .str (.pr .str (.pr (.st (.pr (.int .i64) (.pr (.int .i64) (.pr (.int .i64) .unit)))) .unit)))))]⟩) .no) .no)) .no))))) .no)))) .no))))))))
noncomputable def folioref06_Parse (a0 : List (UInt8)) : Option (((List (UInt8)) × ((List (UInt8)) × (((Int) × ((Int) × ((Int) × (Unit)))) × (Unit)))) × (Int)) :=
 bif (decide ((4096 : Int) < (((List.length a0) : Nat) : Int))) then some ((([] : List (UInt8)), (([] : List (UInt8)), (((0 : Int), ((0 : Int), ((0 : Int), ()))), ()))), (2 : Int))
 else ((Go.Fn.folioref06_words a0)).bind fun r1 =>
 bif (decide (((((List.length r1) : Nat) : Int) : Int) = (0 : Int))) then some ((([] : List (UInt8)), (([] : List (UInt8)), (((0 : Int), ((0 : Int), ((0 : Int), ()))), ()))), (67 : Int))
 else (Go.Fn.folioref06_None).bind fun r2 =>
 ((Go.Lf.idx r1 (0 : Int))).bind fun r3 =>
 ((Go.Fn.folioref06_names r3)).bind fun r4 =>
 (Go.Lf.loopC (σ := (Int) × ((Bool) × (((List (UInt8)) × ((List (UInt8)) × (((Int) × ((Int) × ((Int) × (Unit)))) × (Unit)))) × ((List (UInt8)) × ((List (UInt8)) × (((Int) × ((Int) × ((Int) × (Unit)))) × (Unit))))))) (κ := (Bool) × (((List (UInt8)) × ((List (UInt8)) × (((Int) × ((Int) × ((Int) × (Unit)))) × (Unit)))) × ((List (UInt8)) × ((List (UInt8)) × (((Int) × ((Int) × ((Int) × (Unit)))) × (Unit)))))) (fun z5 =>
     (bif (decide (z5.1 < (((List.length r1) : Nat) : Int))) then some (z5.2.1, (z5.2.2.1, z5.2.2.2))
       else some (false, (z5.2.2.1, z5.2.2.2))).bind fun r6 =>
     bif r6.1 then (((Go.Lf.idx r1 z5.1)).bind fun r7 =>
       bif (decide ((r7 : List (UInt8)) = ((99 : UInt8) :: ((111 : UInt8) :: ((108 : UInt8) :: ((111 : UInt8) :: ((114 : UInt8) :: ([] : List (UInt8))))))))) then (bif (decide ((r6.2.1.2.2.1.2.2.1 : Int) = (-(1 : Int)))) then some ((decide ((Go.IntKind.wrap .i64 (z5.1 + (1 : Int))) < (((List.length r1) : Nat) : Int))), (r6.2.1, r6.2.2))
         else some (false, (r6.2.1, r6.2.2))).bind fun r8 =>
       (bif r8.1 then ((Go.Lf.idx r1 (Go.IntKind.wrap .i64 (z5.1 + (1 : Int))))).bind fun r9 =>
         ((Go.Fn.folioref06_color r9)).bind fun r10 =>
         some (r10.2, (r10.1, (r8.2.1, r8.2.2)))
         else some (r8.1, ((0 : Int), (r8.2.1, r8.2.2)))).bind fun r11 =>
       some (r11.1, ((Go.IntKind.wrap .i64 (z5.1 + (1 : Int))), ((r11.2.2.1.1, (r11.2.2.1.2.1, ((r11.2.2.1.2.2.1.1, (r11.2.2.1.2.2.1.2.1, (r11.2.1, r11.2.2.1.2.2.1.2.2.2))), r11.2.2.1.2.2.2))), r11.2.2.2)))
       else (((Go.Lf.idx r1 z5.1)).bind fun r12 =>
         ((Go.Lf.idx r12 (0 : Int))).bind fun r13 =>
         bif (!(decide (((((UInt8.toNat r13) : Nat) : Int) : Int) = (43 : Int)))) then ((Go.Lf.idx r1 z5.1)).bind fun r14 =>
         ((Go.Lf.idx r14 (0 : Int))).bind fun r15 =>
         some ((decide (((((UInt8.toNat r15) : Nat) : Int) : Int) = (45 : Int))), (r6.2.1, r6.2.2))
         else some (true, (r6.2.1, r6.2.2))).bind fun r16 =>
       bif r16.1 then ((Go.Lf.idx r1 z5.1)).bind fun r17 =>
       ((Go.Lf.sub r17 (1 : Int) (((List.length r17) : Nat) : Int))).bind fun r18 =>
       ((Go.Fn.folioref06_bit r18)).bind fun r19 =>
       (bif (decide ((r19 : Int) ≠ (0 : Int))) then some ((decide (((Go.Lf.bits .and .i64 (Go.Lf.bits .or .i64 r16.2.1.2.2.1.1 r16.2.1.2.2.1.2.1) r19) : Int) = (0 : Int))), (r16.2.1, r16.2.2))
         else some (false, (r16.2.1, r16.2.2))).bind fun r20 =>
       ((Go.Lf.idx r1 z5.1)).bind fun r21 =>
       ((Go.Lf.idx r21 (0 : Int))).bind fun r22 =>
       bif (decide (((((UInt8.toNat r22) : Nat) : Int) : Int) = (43 : Int))) then some (r20.1, (z5.1, ((r20.2.1.1, (r20.2.1.2.1, (((Go.Lf.bits .or .i64 r20.2.1.2.2.1.1 r19), r20.2.1.2.2.1.2), r20.2.1.2.2.2))), r20.2.2)))
       else some (r20.1, (z5.1, ((r20.2.1.1, (r20.2.1.2.1, ((r20.2.1.2.2.1.1, ((Go.Lf.bits .or .i64 r20.2.1.2.2.1.2.1 r19), r20.2.1.2.2.1.2.2)), r20.2.1.2.2.2))), r20.2.2)))
       else some (false, (z5.1, (r16.2.1, r16.2.2)))).bind fun r23 =>
     some (.inl ((Go.IntKind.wrap .i64 (r23.2.1 + (1 : Int))), (r23.1, (r23.2.2.1, r23.2.2.2))))
     else some (.inr (z5.2.1, (r6.2.2, r6.2.1)))) ((1 : Int), (r4.2.2, ((r4.1, (r4.2.1, (r2, ()))), (([] : List (UInt8)), (([] : List (UInt8)), (((0 : Int), ((0 : Int), ((0 : Int), ()))), ())))))) : Option ((Bool) × (((List (UInt8)) × ((List (UInt8)) × (((Int) × ((Int) × ((Int) × (Unit)))) × (Unit)))) × ((List (UInt8)) × ((List (UInt8)) × (((Int) × ((Int) × ((Int) × (Unit)))) × (Unit))))))).bind fun r24 =>
 bif (!r24.1) then some ((([] : List (UInt8)), (([] : List (UInt8)), (((0 : Int), ((0 : Int), ((0 : Int), ()))), ()))), (67 : Int))
 else some (r24.2.2, (0 : Int))
theorem folioref06_Parse_eq (a0 : List (UInt8)) : Go.Lf.fnE folioref06_ParseCtx folioref06_ParseCode folioref06_ParseAnn [.val .str] [(.st (.pr .str (.pr .str (.pr (.st (.pr (.int .i64) (.pr (.int .i64) (.pr (.int .i64) .unit)))) .unit)))), (.int .i64)] [.cell 2 29, .tmp 3] (a0) = folioref06_Parse a0 := by kernel_rfl
noncomputable def folioref06_ParseEnt : Nat × Go.Lf.Entry := (32, ⟨[.val .str], [(.st (.pr .str (.pr .str (.pr (.st (.pr (.int .i64) (.pr (.int .i64) (.pr (.int .i64) .unit)))) .unit)))), (.int .i64)], fun z => folioref06_Parse z⟩)
theorem folioref06_Parse_ok : Go.Lf.EntryOk Go.Proofs.Tryd.prog GG 32 folioref06_ParseEnt.2 :=
  Go.Lf.fn_ok (c := folioref06_ParseCtx) (code := folioref06_ParseCode) (an := folioref06_ParseAnn) (slots := [.cell 2 29, .tmp 3]) (fn := Go.Proofs.Tryd.f32) (by kernel_rfl) ⟨Tys2_ok, Go.Lf.FnsOk.look (.con folioref06_words_ok (.con folioref06_None_ok (.con folioref06_names_ok (.con folioref06_color_ok (.con folioref06_bit_ok .nil)))))⟩ (by kernel_rfl) (by kernel_rfl) (by kernel_rfl) (by kernel_rfl) (by kernel_rfl) (Nat.le_of_ble_eq_true rfl) (by simp [Go.Lf.Ty.top]) (by simp [Go.Lf.Ty.top]) fun z r h => (folioref06_Parse_eq z).trans h
noncomputable def foliolaw06_stylesCtx : Go.Lf.Ctx := ⟨24, Tys2, [foliolaw06_sameEnt], [], [], []⟩
noncomputable def foliolaw06_stylesCode : Go.Code := (Go.Proofs.Tryd.f14.body).getD .skip
def foliolaw06_stylesAnn : Go.Lf.Ann := (.seq .no (.seq (.join (.one .nrm ⟨[], [], [(4, .bool)], []⟩) .no) .no))
noncomputable def foliolaw06_styles (a0 : (List (UInt8)) × ((List (UInt8)) × (((Int) × ((Int) × ((Int) × (Unit)))) × (Unit)))) (a1 : (List (UInt8)) × ((List (UInt8)) × (((Int) × ((Int) × ((Int) × (Unit)))) × (Unit)))) : Option (Bool) :=
 (bif (decide ((a0.1 : List (UInt8)) = a1.1)) then bif (decide ((a0.2.1 : List (UInt8)) = a1.2.1)) then ((Go.Fn.foliolaw06_same a0.2.2.1 a1.2.2.1)).bind fun r1 =>
   some r1
   else some false
   else some false).bind fun r2 =>
 some r2
theorem foliolaw06_styles_eq (a0 : (List (UInt8)) × ((List (UInt8)) × (((Int) × ((Int) × ((Int) × (Unit)))) × (Unit)))) (a1 : (List (UInt8)) × ((List (UInt8)) × (((Int) × ((Int) × ((Int) × (Unit)))) × (Unit)))) : Go.Lf.fnE foliolaw06_stylesCtx foliolaw06_stylesCode foliolaw06_stylesAnn [.val (.st (.pr .str (.pr .str (.pr (.st (.pr (.int .i64) (.pr (.int .i64) (.pr (.int .i64) .unit)))) .unit)))), .val (.st (.pr .str (.pr .str (.pr (.st (.pr (.int .i64) (.pr (.int .i64) (.pr (.int .i64) .unit)))) .unit))))] [.bool] [.tmp 4] (a0, a1) = foliolaw06_styles a0 a1 := by kernel_rfl
noncomputable def foliolaw06_stylesEnt : Nat × Go.Lf.Entry := (14, ⟨[.val (.st (.pr .str (.pr .str (.pr (.st (.pr (.int .i64) (.pr (.int .i64) (.pr (.int .i64) .unit)))) .unit)))), .val (.st (.pr .str (.pr .str (.pr (.st (.pr (.int .i64) (.pr (.int .i64) (.pr (.int .i64) .unit)))) .unit))))], [.bool], fun z => foliolaw06_styles z.1 z.2⟩)
theorem foliolaw06_styles_ok : Go.Lf.EntryOk Go.Proofs.Tryd.prog GG 14 foliolaw06_stylesEnt.2 :=
  Go.Lf.fn_ok (c := foliolaw06_stylesCtx) (code := foliolaw06_stylesCode) (an := foliolaw06_stylesAnn) (slots := [.tmp 4]) (fn := Go.Proofs.Tryd.f14) (by kernel_rfl) ⟨Tys2_ok, Go.Lf.FnsOk.look (.con foliolaw06_same_ok .nil)⟩ (by kernel_rfl) (by kernel_rfl) (by kernel_rfl) (by kernel_rfl) (by kernel_rfl) (Nat.le_of_ble_eq_true rfl) (by simp [Go.Lf.Ty.top]) (by simp [Go.Lf.Ty.top]) fun z r h => (foliolaw06_styles_eq z.1 z.2).trans h
noncomputable def folioref06_ownCtx : Go.Lf.Ctx := ⟨37, Tys2, [], [], [], []⟩
noncomputable def folioref06_ownCode : Go.Code := (Go.Proofs.Tryd.f40.body).getD .skip
def folioref06_ownAnn : Go.Lf.Ann := (.seq .no (.seq (.seq (.join (.one .nrm ⟨[], [(1, 1, [], 0)], [(28, .bool)], [(1, 27, (.st (.pr (.int .i64) (.pr (.int .i64) (.pr (.int .i64) .unit)))))]⟩) .no) .no) (.seq (.seq (.join (.one .nrm ⟨[], [], [(36, .bool)], []⟩) .no) .no) .no)))
noncomputable def folioref06_own (a0 : (Int) × ((Int) × ((Int) × (Unit)))) : Option (Int) :=
 (bif (!(decide (a0.1 < (0 : Int)))) then bif (!(decide (a0.2.1 < (0 : Int)))) then bif (!(decide ((127 : Int) < a0.1))) then bif (!(decide ((127 : Int) < a0.2.1))) then some ((decide (((Go.Lf.bits .and .i64 a0.1 a0.2.1) : Int) ≠ (0 : Int))), a0)
   else some (true, a0)
   else some (true, a0)
   else some (true, a0)
   else some (true, a0)).bind fun r1 =>
 bif r1.1 then some (62 : Int)
 else (bif (!(decide (r1.2.2.2.1 < (-(1 : Int))))) then some (decide ((15 : Int) < r1.2.2.2.1))
   else some true).bind fun r2 =>
 bif r2 then some (63 : Int)
 else some (0 : Int)
theorem folioref06_own_eq (a0 : (Int) × ((Int) × ((Int) × (Unit)))) : Go.Lf.fnE folioref06_ownCtx folioref06_ownCode folioref06_ownAnn [.val (.st (.pr (.int .i64) (.pr (.int .i64) (.pr (.int .i64) .unit))))] [(.int .i64)] [.tmp 2] (a0) = folioref06_own a0 := by kernel_rfl
noncomputable def folioref06_ownEnt : Nat × Go.Lf.Entry := (40, ⟨[.val (.st (.pr (.int .i64) (.pr (.int .i64) (.pr (.int .i64) .unit))))], [(.int .i64)], fun z => folioref06_own z⟩)
theorem folioref06_own_ok : Go.Lf.EntryOk Go.Proofs.Tryd.prog GG 40 folioref06_ownEnt.2 :=
  Go.Lf.fn_ok (c := folioref06_ownCtx) (code := folioref06_ownCode) (an := folioref06_ownAnn) (slots := [.tmp 2]) (fn := Go.Proofs.Tryd.f40) (by kernel_rfl) ⟨Tys2_ok, Go.Lf.FnsOk.look .nil⟩ (by kernel_rfl) (by kernel_rfl) (by kernel_rfl) (by kernel_rfl) (by kernel_rfl) (Nat.le_of_ble_eq_true rfl) (by simp [Go.Lf.Ty.top]) (by simp [Go.Lf.Ty.top]) fun z r h => (folioref06_own_eq z).trans h
noncomputable def folioref06_bitsCtx : Go.Lf.Ctx := ⟨31, Tys2, [folioref06_WordsEnt], [], [], []⟩
noncomputable def folioref06_bitsCode : Go.Code := (Go.Proofs.Tryd.f58.body).getD .skip
def folioref06_bitsAnn : Go.Lf.Ann := (.seq .no (.seq .no (.seq .no (.seq (.seq .no (.loop ⟨[6, 0, 1], [], [(7, (.int .i64)), (5, .str)], []⟩ (.one (.ext 0) ⟨[], [], [(5, .str)], []⟩) (.seq .no (.seq (.join (.one .nrm ⟨[6, 0, 1, 7], [], [(5, .str)], []⟩) .no) .no)))) .no))))
noncomputable def folioref06_bits (a0 : List (UInt8)) (a1 : Int) : Option (List (UInt8)) :=
 (Go.Fn.folioref06_Words).bind fun r1 =>
 (Go.Lf.loopC (σ := (Int) × (List (UInt8))) (κ := List (UInt8)) (fun z2 =>
     bif (decide (z2.1 < (((List.length r1) : Nat) : Int))) then (((Go.Lf.nn (Go.IntKind.wrap .u64 z2.1) (Int.fdiv a1 ((2 : Int) ^ (Min.min (Int.toNat (Go.IntKind.wrap .u64 z2.1)) (64 : Nat)))))).bind fun r3 =>
       bif (decide (((Go.Lf.bits .and .i64 r3 (1 : Int)) : Int) = (1 : Int))) then ((Go.Lf.cat z2.2 ((32 : UInt8) :: ([] : List (UInt8))))).bind fun r4 =>
       ((Go.Lf.cat r4 a0)).bind fun r5 =>
       ((Go.Lf.idx r1 z2.1)).bind fun r6 =>
       ((Go.Lf.cat r5 r6)).bind fun r7 =>
       some r7
       else some z2.2).bind fun r8 =>
     some (.inl ((Go.IntKind.wrap .i64 (z2.1 + (1 : Int))), r8))
     else some (.inr z2.2)) ((0 : Int), ([] : List (UInt8))) : Option (List (UInt8))).bind fun r9 =>
 some r9
theorem folioref06_bits_eq (a0 : List (UInt8)) (a1 : Int) : Go.Lf.fnE folioref06_bitsCtx folioref06_bitsCode folioref06_bitsAnn [.val .str, .val (.int .i64)] [.str] [.tmp 4] (a0, a1) = folioref06_bits a0 a1 := by kernel_rfl
noncomputable def folioref06_bitsEnt : Nat × Go.Lf.Entry := (58, ⟨[.val .str, .val (.int .i64)], [.str], fun z => folioref06_bits z.1 z.2⟩)
theorem folioref06_bits_ok : Go.Lf.EntryOk Go.Proofs.Tryd.prog GG 58 folioref06_bitsEnt.2 :=
  Go.Lf.fn_ok (c := folioref06_bitsCtx) (code := folioref06_bitsCode) (an := folioref06_bitsAnn) (slots := [.tmp 4]) (fn := Go.Proofs.Tryd.f58) (by kernel_rfl) ⟨Tys2_ok, Go.Lf.FnsOk.look (.con folioref06_Words_ok .nil)⟩ (by kernel_rfl) (by kernel_rfl) (by kernel_rfl) (by kernel_rfl) (by kernel_rfl) (Nat.le_of_ble_eq_true rfl) (by simp [Go.Lf.Ty.top]) (by simp [Go.Lf.Ty.top]) fun z r h => (folioref06_bits_eq z.1 z.2).trans h
noncomputable def folioref06_WriteCtx : Go.Lf.Ctx := ⟨58, Tys2, [folioref06_NameEnt, folioref06_ownEnt, strconv_ItoaEnt, folioref06_bitsEnt], [], [], []⟩
noncomputable def folioref06_WriteCode : Go.Code := (Go.Proofs.Tryd.f34.body).getD .skip
def folioref06_WriteAnn : Go.Lf.Ann := (.seq .no (.seq .no (.seq .no (.seq (.seq (.join (.one .nrm ⟨[], [(1, 1, [], 0)], [(24, .bool)], [(1, 29, (.st (.pr .str (.pr .str (.pr (.st (.pr (.int .i64) (.pr (.int .i64) (.pr (.int .i64) .unit)))) .unit)))))]⟩) .no) .no) (.seq .no (.seq (.join (.one .nrm ⟨[], [(1, 1, [], 0)], [(5, .str)], [(1, 29, (.st (.pr .str (.pr .str (.pr (.st (.pr (.int .i64) (.pr (.int .i64) (.pr (.int .i64) .unit)))) .unit)))))]⟩) .no) (.seq (.draw 12) (.seq (.join (.one .nrm ⟨[], [], [(5, .str)], []⟩) .no) .no))))))))
noncomputable def folioref06_Write (a0 : (List (UInt8)) × ((List (UInt8)) × (((Int) × ((Int) × ((Int) × (Unit)))) × (Unit)))) : Option ((List (UInt8)) × (Int)) :=
 ((Go.Fn.folioref06_Name a0.1)).bind fun r1 =>
 bif (!r1) then some (([] : List (UInt8)), (60 : Int))
 else ((Go.Fn.folioref06_own a0.2.2.1)).bind fun r2 =>
 bif (decide ((r2 : Int) ≠ (0 : Int))) then some (([] : List (UInt8)), r2)
 else (bif (decide ((a0.2.1 : List (UInt8)) ≠ ([] : List (UInt8)))) then ((Go.Fn.folioref06_Name a0.2.1)).bind fun r3 =>
   some ((!r3), a0)
   else some (false, a0)).bind fun r4 =>
 bif r4.1 then some (([] : List (UInt8)), (64 : Int))
 else (bif (decide ((r4.2.2.1 : List (UInt8)) ≠ ([] : List (UInt8)))) then ((Go.Lf.cat r4.2.1 ((58 : UInt8) :: ([] : List (UInt8))))).bind fun r5 =>
   ((Go.Lf.cat r5 r4.2.2.1)).bind fun r6 =>
   some (r6, r4.2)
   else some (r4.2.1, r4.2)).bind fun r7 =>
 ((Go.Fn.folioref06_bits ((43 : UInt8) :: ([] : List (UInt8))) r7.2.2.2.1.1)).bind fun r8 =>
 ((Go.Lf.cat r7.1 r8)).bind fun r9 =>
 ((Go.Fn.folioref06_bits ((45 : UInt8) :: ([] : List (UInt8))) r7.2.2.2.1.2.1)).bind fun r10 =>
 ((Go.Lf.cat r9 r10)).bind fun r11 =>
 (bif (decide ((r7.2.2.2.1.2.2.1 : Int) ≠ (-(1 : Int)))) then ((Go.Lf.cat r11 ((32 : UInt8) :: ((99 : UInt8) :: ((111 : UInt8) :: ((108 : UInt8) :: ((111 : UInt8) :: ((114 : UInt8) :: ((32 : UInt8) :: ([] : List (UInt8))))))))))).bind fun r12 =>
   ((Go.Fn.strconv_Itoa r7.2.2.2.1.2.2.1)).bind fun r13 =>
   ((Go.Lf.cat r12 r13)).bind fun r14 =>
   some r14
   else some r11).bind fun r15 =>
 some (r15, (0 : Int))
theorem folioref06_Write_eq (a0 : (List (UInt8)) × ((List (UInt8)) × (((Int) × ((Int) × ((Int) × (Unit)))) × (Unit)))) : Go.Lf.fnE folioref06_WriteCtx folioref06_WriteCode folioref06_WriteAnn [.val (.st (.pr .str (.pr .str (.pr (.st (.pr (.int .i64) (.pr (.int .i64) (.pr (.int .i64) .unit)))) .unit))))] [.str, (.int .i64)] [.tmp 2, .tmp 3] (a0) = folioref06_Write a0 := by kernel_rfl
noncomputable def folioref06_WriteEnt : Nat × Go.Lf.Entry := (34, ⟨[.val (.st (.pr .str (.pr .str (.pr (.st (.pr (.int .i64) (.pr (.int .i64) (.pr (.int .i64) .unit)))) .unit))))], [.str, (.int .i64)], fun z => folioref06_Write z⟩)
theorem folioref06_Write_ok : Go.Lf.EntryOk Go.Proofs.Tryd.prog GG 34 folioref06_WriteEnt.2 :=
  Go.Lf.fn_ok (c := folioref06_WriteCtx) (code := folioref06_WriteCode) (an := folioref06_WriteAnn) (slots := [.tmp 2, .tmp 3]) (fn := Go.Proofs.Tryd.f34) (by kernel_rfl) ⟨Tys2_ok, Go.Lf.FnsOk.look (.con folioref06_Name_ok (.con folioref06_own_ok (.con strconv_Itoa_ok (.con folioref06_bits_ok .nil))))⟩ (by kernel_rfl) (by kernel_rfl) (by kernel_rfl) (by kernel_rfl) (by kernel_rfl) (Nat.le_of_ble_eq_true rfl) (by simp [Go.Lf.Ty.top]) (by simp [Go.Lf.Ty.top]) fun z r h => (folioref06_Write_eq z).trans h
noncomputable def foliolaw06_StyleTextsCtx : Go.Lf.Ctx := ⟨52, Tys2, [foliolaw06_awakeEnt, foliolaw06_stylesEnt, style_ParseEnt, folioref06_ParseEnt, style_WriteEnt, folioref06_WriteEnt], [], [], []⟩
noncomputable def foliolaw06_StyleTextsCode : Go.Code := (Go.Proofs.Tryd.f6.body).getD .skip
def foliolaw06_StyleTextsAnn : Go.Lf.Ann := (.seq .no (.seq .no (.seq .no (.seq (.seq (.join (.one .nrm ⟨[], [(3, 3, [], 0)], [(33, .bool)], [(3, 29, (.st (.pr .str (.pr .str (.pr (.st (.pr (.int .i64) (.pr (.int .i64) (.pr (.int .i64) .unit)))) .unit)))))]⟩) .no) .no) (.seq .no (.seq .no (.seq (.join (.one .nrm ⟨[], [], [(4, .bool)], []⟩) .no) .no)))))))
noncomputable def foliolaw06_StyleTexts (a0 : List (UInt8)) (a1 : (List (UInt8)) × ((List (UInt8)) × (((Int) × ((Int) × ((Int) × (Unit)))) × (Unit)))) : Option (Bool) :=
 ((Go.Fn.style_Parse a0)).bind fun r1 =>
 ((Go.Fn.folioref06_Parse a0)).bind fun r2 =>
 (((Go.Fn.foliolaw06_styles r1.1 r2.1)).bind fun r3 =>
   bif (!(!r3)) then bif (!(decide ((r1.2 : Int) ≠ r2.2))) then (Go.Fn.foliolaw06_awake).bind fun r4 =>
   some ((!r4), a1)
   else some (true, a1)
   else some (true, a1)).bind fun r5 =>
 bif r5.1 then some false
 else ((Go.Fn.style_Write r5.2)).bind fun r6 =>
 ((Go.Fn.folioref06_Write r5.2)).bind fun r7 =>
 (bif (decide ((r6.1 : List (UInt8)) = r7.1)) then some (decide ((r6.2 : Int) = r7.2))
   else some false).bind fun r8 =>
 some r8
theorem foliolaw06_StyleTexts_eq (a0 : List (UInt8)) (a1 : (List (UInt8)) × ((List (UInt8)) × (((Int) × ((Int) × ((Int) × (Unit)))) × (Unit)))) : Go.Lf.fnE foliolaw06_StyleTextsCtx foliolaw06_StyleTextsCode foliolaw06_StyleTextsAnn [.val .str, .val (.st (.pr .str (.pr .str (.pr (.st (.pr (.int .i64) (.pr (.int .i64) (.pr (.int .i64) .unit)))) .unit))))] [.bool] [.tmp 4] (a0, a1) = foliolaw06_StyleTexts a0 a1 := by kernel_rfl
noncomputable def foliolaw06_StyleTextsEnt : Nat × Go.Lf.Entry := (6, ⟨[.val .str, .val (.st (.pr .str (.pr .str (.pr (.st (.pr (.int .i64) (.pr (.int .i64) (.pr (.int .i64) .unit)))) .unit))))], [.bool], fun z => foliolaw06_StyleTexts z.1 z.2⟩)
theorem foliolaw06_StyleTexts_ok : Go.Lf.EntryOk Go.Proofs.Tryd.prog GG 6 foliolaw06_StyleTextsEnt.2 :=
  Go.Lf.fn_ok (c := foliolaw06_StyleTextsCtx) (code := foliolaw06_StyleTextsCode) (an := foliolaw06_StyleTextsAnn) (slots := [.tmp 4]) (fn := Go.Proofs.Tryd.f6) (by kernel_rfl) ⟨Tys2_ok, Go.Lf.FnsOk.look (.con foliolaw06_awake_ok (.con foliolaw06_styles_ok (.con style_Parse_ok (.con folioref06_Parse_ok (.con style_Write_ok (.con folioref06_Write_ok .nil))))))⟩ (by kernel_rfl) (by kernel_rfl) (by kernel_rfl) (by kernel_rfl) (by kernel_rfl) (Nat.le_of_ble_eq_true rfl) (by simp [Go.Lf.Ty.top]) (by simp [Go.Lf.Ty.top]) fun z r h => (foliolaw06_StyleTexts_eq z.1 z.2).trans h
noncomputable def foliolaw06_wholeCtx : Go.Lf.Ctx := ⟨6, Tys2, [folioref06_BaseEnt], [2], [], [(2, (.rw 29 (.st (.pr .str (.pr .str (.pr (.st (.pr (.int .i64) (.pr (.int .i64) (.pr (.int .i64) .unit)))) .unit))))))]⟩
noncomputable def foliolaw06_wholeCode : Go.Code := (Go.Proofs.Tryd.f26.body).getD .skip
def foliolaw06_wholeAnn : Go.Lf.Ann := .no
noncomputable def foliolaw06_whole (a0 : List ((List (UInt8)) × ((List (UInt8)) × (((Int) × ((Int) × ((Int) × (Unit)))) × (Unit))))) : Option (List ((List (UInt8)) × ((List (UInt8)) × (((Int) × ((Int) × ((Int) × (Unit)))) × (Unit))))) :=
 (Go.Fn.folioref06_Base).bind fun r1 =>
 ((Go.Lf.app (56 : Nat) r1 a0)).bind fun r2 =>
 some r2
theorem foliolaw06_whole_eq (a0 : List ((List (UInt8)) × ((List (UInt8)) × (((Int) × ((Int) × ((Int) × (Unit)))) × (Unit))))) : Go.Lf.fnE foliolaw06_wholeCtx foliolaw06_wholeCode foliolaw06_wholeAnn [.val (.sl (.st (.pr .str (.pr .str (.pr (.st (.pr (.int .i64) (.pr (.int .i64) (.pr (.int .i64) .unit)))) .unit)))))] [(.rw 29 (.st (.pr .str (.pr .str (.pr (.st (.pr (.int .i64) (.pr (.int .i64) (.pr (.int .i64) .unit)))) .unit)))))] [.tmp 2] (a0) = foliolaw06_whole a0 := by kernel_rfl
noncomputable def foliolaw06_wholeEnt : Nat × Go.Lf.Entry := (26, ⟨[.val (.sl (.st (.pr .str (.pr .str (.pr (.st (.pr (.int .i64) (.pr (.int .i64) (.pr (.int .i64) .unit)))) .unit)))))], [(.rw 29 (.st (.pr .str (.pr .str (.pr (.st (.pr (.int .i64) (.pr (.int .i64) (.pr (.int .i64) .unit)))) .unit)))))], fun z => foliolaw06_whole z⟩)
theorem foliolaw06_whole_ok : Go.Lf.EntryOk Go.Proofs.Tryd.prog GG 26 foliolaw06_wholeEnt.2 :=
  Go.Lf.fn_ok (c := foliolaw06_wholeCtx) (code := foliolaw06_wholeCode) (an := foliolaw06_wholeAnn) (slots := [.tmp 2]) (fn := Go.Proofs.Tryd.f26) (by kernel_rfl) ⟨Tys2_ok, Go.Lf.FnsOk.look (.con folioref06_Base_ok .nil)⟩ (by kernel_rfl) (by kernel_rfl) (by kernel_rfl) (by kernel_rfl) (by kernel_rfl) (Nat.le_of_ble_eq_true rfl) (by simp [Go.Lf.Ty.top]) (by simp [Go.Lf.Ty.top]) fun z r h => (foliolaw06_whole_eq z).trans h
noncomputable def folioref06_FindCtx : Go.Lf.Ctx := ⟨21, Tys2, [], [], [], []⟩
noncomputable def folioref06_FindCode : Go.Code := (Go.Proofs.Tryd.f19.body).getD .skip
def folioref06_FindAnn : Go.Lf.Ann := (.seq .no (.seq (.seq .no (.loop ⟨[1, 0], [], [(6, (.int .i64))], []⟩ (.more (.ext 0) ⟨[], [], [], []⟩ (.one .ret ⟨[], [], [(4, (.int .i64)), (5, .bool)], []⟩)) .no)) .no))
noncomputable def folioref06_Find (a0 : List ((List (UInt8)) × ((List (UInt8)) × (((Int) × ((Int) × ((Int) × (Unit)))) × (Unit))))) (a1 : List (UInt8)) : Option ((Int) × (Bool)) :=
 (Go.Lf.loopC (σ := Int) (κ := (Unit) ⊕ ((Int) × (Bool))) (fun z1 =>
     bif (decide (z1 < (((List.length a0) : Nat) : Int))) then ((Go.Lf.idx a0 z1)).bind fun r2 =>
     bif (decide ((r2.1 : List (UInt8)) = a1)) then some (.inr (.inr (z1, true)))
     else some (.inl (Go.IntKind.wrap .i64 (z1 + (1 : Int))))
     else some (.inr (.inl ()))) (0 : Int) : Option ((Unit) ⊕ ((Int) × (Bool)))).bind fun r3 =>
 Go.Lf.onSum r3 (fun a4 =>
 some ((0 : Int), false)) (fun b5 =>
 some (b5.1, b5.2))
theorem folioref06_Find_eq (a0 : List ((List (UInt8)) × ((List (UInt8)) × (((Int) × ((Int) × ((Int) × (Unit)))) × (Unit))))) (a1 : List (UInt8)) : Go.Lf.fnE folioref06_FindCtx folioref06_FindCode folioref06_FindAnn [.val (.sl (.st (.pr .str (.pr .str (.pr (.st (.pr (.int .i64) (.pr (.int .i64) (.pr (.int .i64) .unit)))) .unit))))), .val .str] [(.int .i64), .bool] [.tmp 4, .tmp 5] (a0, a1) = folioref06_Find a0 a1 := by kernel_rfl
noncomputable def folioref06_FindEnt : Nat × Go.Lf.Entry := (19, ⟨[.val (.sl (.st (.pr .str (.pr .str (.pr (.st (.pr (.int .i64) (.pr (.int .i64) (.pr (.int .i64) .unit)))) .unit))))), .val .str], [(.int .i64), .bool], fun z => folioref06_Find z.1 z.2⟩)
theorem folioref06_Find_ok : Go.Lf.EntryOk Go.Proofs.Tryd.prog GG 19 folioref06_FindEnt.2 :=
  Go.Lf.fn_ok (c := folioref06_FindCtx) (code := folioref06_FindCode) (an := folioref06_FindAnn) (slots := [.tmp 4, .tmp 5]) (fn := Go.Proofs.Tryd.f19) (by kernel_rfl) ⟨Tys2_ok, Go.Lf.FnsOk.look .nil⟩ (by kernel_rfl) (by kernel_rfl) (by kernel_rfl) (by kernel_rfl) (by kernel_rfl) (Nat.le_of_ble_eq_true rfl) (by simp [Go.Lf.Ty.top]) (by simp [Go.Lf.Ty.top]) fun z r h => (folioref06_Find_eq z.1 z.2).trans h
noncomputable def folioref06_chainCtx : Go.Lf.Ctx := ⟨33, Tys2, [folioref06_FindEnt], [], [], []⟩
noncomputable def folioref06_chainCode : Go.Code := (Go.Proofs.Tryd.f41.body).getD .skip
def folioref06_chainAnn : Go.Lf.Ann := (.seq .no (.seq .no (.seq (.loop ⟨[0], [], [(5, (.int .i64)), (1, (.int .i64))], []⟩ (.more (.ext 0) ⟨[], [], [], []⟩ (.one .ret ⟨[], [], [(4, (.int .i64))], []⟩)) .no) .no)))
noncomputable def folioref06_chain (a0 : List ((List (UInt8)) × ((List (UInt8)) × (((Int) × ((Int) × ((Int) × (Unit)))) × (Unit))))) (a1 : Int) : Option (Int) :=
 (Go.Lf.loopC (σ := (Int) × (Int)) (κ := (Unit) ⊕ (Int)) (fun z1 =>
     ((Go.Lf.idx a0 z1.2)).bind fun r2 =>
     bif (decide ((r2.2.1 : List (UInt8)) ≠ ([] : List (UInt8)))) then ((Go.Lf.idx a0 z1.2)).bind fun r3 =>
     ((Go.Fn.folioref06_Find a0 r3.2.1)).bind fun r4 =>
     bif (!r4.2) then bif (decide ((z1.1 : Int) = (1 : Int))) then some (.inr (.inr (64 : Int)))
     else some (.inr (.inr (0 : Int)))
     else bif (decide ((8 : Int) < (Go.IntKind.wrap .i64 (z1.1 + (1 : Int))))) then some (.inr (.inr (65 : Int)))
     else some (.inl ((Go.IntKind.wrap .i64 (z1.1 + (1 : Int))), r4.1))
     else some (.inr (.inl ()))) ((1 : Int), a1) : Option ((Unit) ⊕ (Int))).bind fun r5 =>
 Go.Lf.onSum r5 (fun a6 =>
 some (0 : Int)) (fun b7 =>
 some b7)
theorem folioref06_chain_eq (a0 : List ((List (UInt8)) × ((List (UInt8)) × (((Int) × ((Int) × ((Int) × (Unit)))) × (Unit))))) (a1 : Int) : Go.Lf.fnE folioref06_chainCtx folioref06_chainCode folioref06_chainAnn [.val (.sl (.st (.pr .str (.pr .str (.pr (.st (.pr (.int .i64) (.pr (.int .i64) (.pr (.int .i64) .unit)))) .unit))))), .val (.int .i64)] [(.int .i64)] [.tmp 4] (a0, a1) = folioref06_chain a0 a1 := by kernel_rfl
noncomputable def folioref06_chainEnt : Nat × Go.Lf.Entry := (41, ⟨[.val (.sl (.st (.pr .str (.pr .str (.pr (.st (.pr (.int .i64) (.pr (.int .i64) (.pr (.int .i64) .unit)))) .unit))))), .val (.int .i64)], [(.int .i64)], fun z => folioref06_chain z.1 z.2⟩)
theorem folioref06_chain_ok : Go.Lf.EntryOk Go.Proofs.Tryd.prog GG 41 folioref06_chainEnt.2 :=
  Go.Lf.fn_ok (c := folioref06_chainCtx) (code := folioref06_chainCode) (an := folioref06_chainAnn) (slots := [.tmp 4]) (fn := Go.Proofs.Tryd.f41) (by kernel_rfl) ⟨Tys2_ok, Go.Lf.FnsOk.look (.con folioref06_Find_ok .nil)⟩ (by kernel_rfl) (by kernel_rfl) (by kernel_rfl) (by kernel_rfl) (by kernel_rfl) (Nat.le_of_ble_eq_true rfl) (by simp [Go.Lf.Ty.top]) (by simp [Go.Lf.Ty.top]) fun z r h => (folioref06_chain_eq z.1 z.2).trans h
noncomputable def folioref06_CheckCtx : Go.Lf.Ctx := ⟨64, Tys2, [folioref06_FindEnt, folioref06_NameEnt, folioref06_ownEnt, folioref06_chainEnt], [], [], []⟩
noncomputable def folioref06_CheckCode : Go.Code := (Go.Proofs.Tryd.f17.body).getD .skip
def folioref06_CheckAnn : Go.Lf.Ann := (.seq .no (.seq .no (.seq (.seq .no (.loop ⟨[0], [], [(4, (.int .i64))], []⟩ (.more (.ext 0) ⟨[0], [], [], []⟩ (.one .ret ⟨[], [], [(2, (.int .i64)), (3, (.int .i64))], []⟩)) .no)) (.seq (.seq .no (.loop ⟨[0], [], [(8, (.int .i64))], []⟩ (.more (.ext 2) ⟨[], [], [], []⟩ (.one .ret ⟨[], [], [(2, (.int .i64)), (3, (.int .i64))], []⟩)) .no)) .no))))
noncomputable def folioref06_Check (a0 : List ((List (UInt8)) × ((List (UInt8)) × (((Int) × ((Int) × ((Int) × (Unit)))) × (Unit))))) : Option ((Int) × (Int)) :=
 bif (decide ((64 : Int) < (((List.length a0) : Nat) : Int))) then some ((0 : Int), (2 : Int))
 else (Go.Lf.loopC (σ := Int) (κ := (Unit) ⊕ ((Int) × (Int))) (fun z1 =>
     bif (decide (z1 < (((List.length a0) : Nat) : Int))) then ((Go.Lf.idx a0 z1)).bind fun r2 =>
     ((Go.Fn.folioref06_Name r2.1)).bind fun r3 =>
     bif (!r3) then some (.inr (.inr (z1, (60 : Int))))
     else ((Go.Lf.idx a0 z1)).bind fun r4 =>
     ((Go.Fn.folioref06_Find a0 r4.1)).bind fun r5 =>
     bif (decide (r5.1 < z1)) then some (.inr (.inr (z1, (61 : Int))))
     else ((Go.Lf.idx a0 z1)).bind fun r6 =>
     ((Go.Fn.folioref06_own r6.2.2.1)).bind fun r7 =>
     bif (decide ((r7 : Int) ≠ (0 : Int))) then some (.inr (.inr (z1, r7)))
     else some (.inl (Go.IntKind.wrap .i64 (z1 + (1 : Int))))
     else some (.inr (.inl ()))) (0 : Int) : Option ((Unit) ⊕ ((Int) × (Int)))).bind fun r8 =>
 Go.Lf.onSum r8 (fun a9 =>
 (Go.Lf.loopC (σ := Int) (κ := (Unit) ⊕ ((Int) × (Int))) (fun z10 =>
     bif (decide (z10 < (((List.length a0) : Nat) : Int))) then ((Go.Fn.folioref06_chain a0 z10)).bind fun r11 =>
     bif (decide ((r11 : Int) ≠ (0 : Int))) then some (.inr (.inr (z10, r11)))
     else some (.inl (Go.IntKind.wrap .i64 (z10 + (1 : Int))))
     else some (.inr (.inl ()))) (0 : Int) : Option ((Unit) ⊕ ((Int) × (Int)))).bind fun r12 =>
 Go.Lf.onSum r12 (fun a13 =>
 some ((0 : Int), (0 : Int))) (fun b14 =>
 some (b14.1, b14.2))) (fun b15 =>
 some (b15.1, b15.2))
theorem folioref06_Check_eq (a0 : List ((List (UInt8)) × ((List (UInt8)) × (((Int) × ((Int) × ((Int) × (Unit)))) × (Unit))))) : Go.Lf.fnE folioref06_CheckCtx folioref06_CheckCode folioref06_CheckAnn [.val (.sl (.st (.pr .str (.pr .str (.pr (.st (.pr (.int .i64) (.pr (.int .i64) (.pr (.int .i64) .unit)))) .unit)))))] [(.int .i64), (.int .i64)] [.tmp 2, .tmp 3] (a0) = folioref06_Check a0 := by kernel_rfl
noncomputable def folioref06_CheckEnt : Nat × Go.Lf.Entry := (17, ⟨[.val (.sl (.st (.pr .str (.pr .str (.pr (.st (.pr (.int .i64) (.pr (.int .i64) (.pr (.int .i64) .unit)))) .unit)))))], [(.int .i64), (.int .i64)], fun z => folioref06_Check z⟩)
theorem folioref06_Check_ok : Go.Lf.EntryOk Go.Proofs.Tryd.prog GG 17 folioref06_CheckEnt.2 :=
  Go.Lf.fn_ok (c := folioref06_CheckCtx) (code := folioref06_CheckCode) (an := folioref06_CheckAnn) (slots := [.tmp 2, .tmp 3]) (fn := Go.Proofs.Tryd.f17) (by kernel_rfl) ⟨Tys2_ok, Go.Lf.FnsOk.look (.con folioref06_Find_ok (.con folioref06_Name_ok (.con folioref06_own_ok (.con folioref06_chain_ok .nil))))⟩ (by kernel_rfl) (by kernel_rfl) (by kernel_rfl) (by kernel_rfl) (by kernel_rfl) (Nat.le_of_ble_eq_true rfl) (by simp [Go.Lf.Ty.top]) (by simp [Go.Lf.Ty.top]) fun z r h => (folioref06_Check_eq z).trans h
noncomputable def foliolaw06_StyleSplitsCtx : Go.Lf.Ctx := ⟨139, Tys2, [foliolaw06_awakeEnt, folioref06_CheckEnt, foliolaw06_lookEnt, style_ApplyEnt, foliolaw06_wholeEnt, style_WholeEnt, style_NestEnt], [16, 88], [], [(16, (.rw 9 .str)), (88, (.rw 9 .str))]⟩
noncomputable def foliolaw06_StyleSplitsCode : Go.Code := (Go.Proofs.Tryd.f8.body).getD .skip
def foliolaw06_StyleSplitsAnn : Go.Lf.Ann := (.seq .no (.seq .no (.seq .no (.seq (.seq .no (.seq (.join (.one .nrm ⟨[2, 7, 1], [], [(43, .bool)], []⟩) .no) .no)) (.seq .no (.seq .no (.seq .no (.seq .no (.seq (.seq .no (.loop ⟨[15, 2, 7, 1], [(10, 10, [], 0), (13, 13, [], 0)], [(17, (.int .i64)), (16, (.rw 9 .str))], [(10, 40, (.st (.pr (.int .i64) (.pr (.int .i64) .unit)))), (13, 40, (.st (.pr (.int .i64) (.pr (.int .i64) .unit))))]⟩ (.more (.ext 0) ⟨[15, 1, 7], [(13, 13, [], 0), (10, 10, [], 0)], [(16, (.rw 9 .str))], [(13, 40, (.st (.pr (.int .i64) (.pr (.int .i64) .unit)))), (10, 40, (.st (.pr (.int .i64) (.pr (.int .i64) .unit))))]⟩ (.one .ret ⟨[], [], [(6, .bool)], []⟩)) (.seq .no (.seq (.seq .no (.seq .no (.seq .no (.draw 9)))) .no)))) (.seq (.seq .no (.cnd (.seq (.join (.one .nrm ⟨[], [], [(6, .bool)], []⟩) .no) .no) .no)) (.seq .no (.seq (.join (.one .nrm ⟨[], [], [(6, .bool)], []⟩) .no) .no))))))))))))
noncomputable def foliolaw06_StyleSplits (a0 : List ((List (UInt8)) × ((List (UInt8)) × (((Int) × ((Int) × ((Int) × (Unit)))) × (Unit))))) (a1 : List (List (UInt8))) (a2 : List (List (UInt8))) : Option (Bool) :=
 (Go.Fn.foliolaw06_awake).bind fun r1 =>
 bif (!r1) then some false
 else ((Go.Fn.foliolaw06_whole a0)).bind fun r2 =>
 ((Go.Fn.folioref06_Check r2)).bind fun r3 =>
 (bif (!(decide ((r3.2 : Int) ≠ (0 : Int)))) then bif (!(decide ((15 : Int) < (((List.length a1) : Nat) : Int)))) then some (decide ((15 : Int) < (((List.length a2) : Nat) : Int)))
   else some true
   else some true).bind fun r4 =>
 bif r4 then some true
 else ((Go.Fn.style_Nest r2 a1)).bind fun r5 =>
 ((Go.Lf.app (16 : Nat) ([] : List (List (UInt8))) a1)).bind fun r6 =>
 ((Go.Lf.app (16 : Nat) r6 a2)).bind fun r7 =>
 ((Go.Fn.style_Nest r2 r7)).bind fun r8 =>
 bif (decide ((r5.2.2 : Int) ≠ (0 : Int))) then some (decide ((r8.2.2 : Int) ≠ (0 : Int)))
 else (Go.Lf.loopC (σ := (Int) × ((List (List (UInt8))) × (((Int) × ((Int) × (Unit))) × ((Int) × ((Int) × (Unit)))))) (κ := ((List (List (UInt8))) × (((Int) × ((Int) × (Unit))) × ((Int) × ((Int) × (Unit))))) ⊕ (Bool)) (fun z9 =>
     bif (decide (z9.1 < (((List.length a2) : Nat) : Int))) then ((Go.Lf.idx a2 z9.1)).bind fun r10 =>
     ((Go.Fn.style_Whole r2 r10)).bind fun r11 =>
     bif (decide ((r11.2 : Int) ≠ (0 : Int))) then some (.inr (.inr (decide ((r8.2.2 : Int) = (66 : Int)))))
     else ((Go.Fn.style_Apply z9.2.2.1 r11.1)).bind fun r12 =>
     ((Go.Lf.idx a2 z9.1)).bind fun r13 =>
     ((Go.Lf.idx a2 z9.1)).bind fun r14 =>
     ((Go.Lf.app (16 : Nat) z9.2.1 (r13 :: (r14 :: ([] : List (List (UInt8))))))).bind fun r15 =>
     some (.inl ((Go.IntKind.wrap .i64 (z9.1 + (1 : Int))), (r15, (r12, z9.2.2.2))))
     else some (.inr (.inl (z9.2.1, (z9.2.2.2, z9.2.2.1))))) ((0 : Int), (([] : List (List (UInt8))), (r5.1, r8.1))) : Option (((List (List (UInt8))) × (((Int) × ((Int) × (Unit))) × ((Int) × ((Int) × (Unit))))) ⊕ (Bool))).bind fun r16 =>
 Go.Lf.onSum r16 (fun a17 =>
 bif (decide ((32 : Int) < (Go.IntKind.wrap .i64 ((((List.length a1) : Nat) : Int) + (((List.length a17.1) : Nat) : Int))))) then (bif (decide ((r8.2.2 : Int) = (0 : Int))) then ((Go.Fn.foliolaw06_look a17.2.2 a17.2.1)).bind fun r18 =>
   some r18
   else some false).bind fun r19 =>
 some r19
 else ((Go.Lf.app (16 : Nat) ([] : List (List (UInt8))) a1)).bind fun r20 =>
 ((Go.Lf.app (16 : Nat) r20 a17.1)).bind fun r21 =>
 ((Go.Fn.style_Nest r2 r21)).bind fun r22 =>
 (bif (decide ((r8.2.2 : Int) = (0 : Int))) then ((Go.Fn.foliolaw06_look a17.2.2 a17.2.1)).bind fun r23 =>
   bif r23 then bif (decide ((r22.2.2 : Int) = (0 : Int))) then ((Go.Fn.foliolaw06_look r22.1 a17.2.1)).bind fun r24 =>
   some r24
   else some false
   else some false
   else some false).bind fun r25 =>
 some r25) (fun b26 =>
 some b26)
theorem foliolaw06_StyleSplits_eq (a0 : List ((List (UInt8)) × ((List (UInt8)) × (((Int) × ((Int) × ((Int) × (Unit)))) × (Unit))))) (a1 : List (List (UInt8))) (a2 : List (List (UInt8))) : Go.Lf.fnE foliolaw06_StyleSplitsCtx foliolaw06_StyleSplitsCode foliolaw06_StyleSplitsAnn [.val (.sl (.st (.pr .str (.pr .str (.pr (.st (.pr (.int .i64) (.pr (.int .i64) (.pr (.int .i64) .unit)))) .unit))))), .val (.sl .str), .val (.sl .str)] [.bool] [.tmp 6] (a0, a1, a2) = foliolaw06_StyleSplits a0 a1 a2 := by kernel_rfl
noncomputable def foliolaw06_StyleSplitsEnt : Nat × Go.Lf.Entry := (8, ⟨[.val (.sl (.st (.pr .str (.pr .str (.pr (.st (.pr (.int .i64) (.pr (.int .i64) (.pr (.int .i64) .unit)))) .unit))))), .val (.sl .str), .val (.sl .str)], [.bool], fun z => foliolaw06_StyleSplits z.1 z.2.1 z.2.2⟩)
theorem foliolaw06_StyleSplits_ok : Go.Lf.EntryOk Go.Proofs.Tryd.prog GG 8 foliolaw06_StyleSplitsEnt.2 :=
  Go.Lf.fn_ok (c := foliolaw06_StyleSplitsCtx) (code := foliolaw06_StyleSplitsCode) (an := foliolaw06_StyleSplitsAnn) (slots := [.tmp 6]) (fn := Go.Proofs.Tryd.f8) (by kernel_rfl) ⟨Tys2_ok, Go.Lf.FnsOk.look (.con foliolaw06_awake_ok (.con folioref06_Check_ok (.con foliolaw06_look_ok (.con style_Apply_ok (.con foliolaw06_whole_ok (.con style_Whole_ok (.con style_Nest_ok .nil)))))))⟩ (by kernel_rfl) (by kernel_rfl) (by kernel_rfl) (by kernel_rfl) (by kernel_rfl) (Nat.le_of_ble_eq_true rfl) (by simp [Go.Lf.Ty.top]) (by simp [Go.Lf.Ty.top]) fun z r h => (foliolaw06_StyleSplits_eq z.1 z.2.1 z.2.2).trans h
noncomputable def foliolaw06_StyleBackCtx : Go.Lf.Ctx := ⟨67, Tys2, [foliolaw06_awakeEnt, foliolaw06_stylesEnt, style_ParseEnt, style_WriteEnt], [], [], []⟩
noncomputable def foliolaw06_StyleBackCode : Go.Code := (Go.Proofs.Tryd.f9.body).getD .skip
def foliolaw06_StyleBackAnn : Go.Lf.Ann := (.seq .no (.seq .no (.seq (.join (.more .ret ⟨[], [], [(4, .bool)], []⟩ (.one .nrm ⟨[0], [], [], []⟩)) (.seq .no (.seq .no (.cnd (.seq .no (.seq (.join (.one .nrm ⟨[0], [], [(35, .bool)], []⟩) .no) .no)) .no)))) (.seq .no (.seq .no (.seq .no (.seq .no (.seq (.join (.one .nrm ⟨[], [], [(4, .bool)], []⟩) .no) .no))))))))
noncomputable def foliolaw06_StyleBack (a0 : List (UInt8)) (a1 : (List (UInt8)) × ((List (UInt8)) × (((Int) × ((Int) × ((Int) × (Unit)))) × (Unit)))) : Option (Bool) :=
 (Go.Fn.foliolaw06_awake).bind fun r1 =>
 bif (!r1) then some false
 else (((Go.Fn.style_Write a1)).bind fun r2 =>
   bif (decide ((r2.2 : Int) = (0 : Int))) then ((Go.Fn.style_Parse r2.1)).bind fun r3 =>
   (bif (!(decide ((r3.2 : Int) ≠ (0 : Int)))) then ((Go.Fn.foliolaw06_styles r3.1 a1)).bind fun r4 =>
     some (!r4)
     else some true).bind fun r5 =>
   bif r5 then some (.inl false)
   else some (.inr ())
   else some (.inr ()) : Option ((Bool) ⊕ (Unit))).bind fun r6 =>
 Go.Lf.onSum r6 (fun a7 =>
 some a7) (fun b8 =>
 ((Go.Fn.style_Parse a0)).bind fun r9 =>
 bif (decide ((r9.2 : Int) ≠ (0 : Int))) then ((Go.Fn.foliolaw06_styles r9.1 (([] : List (UInt8)), (([] : List (UInt8)), (((0 : Int), ((0 : Int), ((0 : Int), ()))), ()))))).bind fun r10 =>
 some r10
 else ((Go.Fn.style_Write r9.1)).bind fun r11 =>
 ((Go.Fn.style_Parse r11.1)).bind fun r12 =>
 (bif (decide ((r11.2 : Int) = (0 : Int))) then bif (decide ((r12.2 : Int) = (0 : Int))) then ((Go.Fn.foliolaw06_styles r9.1 r12.1)).bind fun r13 =>
   some r13
   else some false
   else some false).bind fun r14 =>
 some r14)
theorem foliolaw06_StyleBack_eq (a0 : List (UInt8)) (a1 : (List (UInt8)) × ((List (UInt8)) × (((Int) × ((Int) × ((Int) × (Unit)))) × (Unit)))) : Go.Lf.fnE foliolaw06_StyleBackCtx foliolaw06_StyleBackCode foliolaw06_StyleBackAnn [.val .str, .val (.st (.pr .str (.pr .str (.pr (.st (.pr (.int .i64) (.pr (.int .i64) (.pr (.int .i64) .unit)))) .unit))))] [.bool] [.tmp 4] (a0, a1) = foliolaw06_StyleBack a0 a1 := by kernel_rfl
noncomputable def foliolaw06_StyleBackEnt : Nat × Go.Lf.Entry := (9, ⟨[.val .str, .val (.st (.pr .str (.pr .str (.pr (.st (.pr (.int .i64) (.pr (.int .i64) (.pr (.int .i64) .unit)))) .unit))))], [.bool], fun z => foliolaw06_StyleBack z.1 z.2⟩)
theorem foliolaw06_StyleBack_ok : Go.Lf.EntryOk Go.Proofs.Tryd.prog GG 9 foliolaw06_StyleBackEnt.2 :=
  Go.Lf.fn_ok (c := foliolaw06_StyleBackCtx) (code := foliolaw06_StyleBackCode) (an := foliolaw06_StyleBackAnn) (slots := [.tmp 4]) (fn := Go.Proofs.Tryd.f9) (by kernel_rfl) ⟨Tys2_ok, Go.Lf.FnsOk.look (.con foliolaw06_awake_ok (.con foliolaw06_styles_ok (.con style_Parse_ok (.con style_Write_ok .nil))))⟩ (by kernel_rfl) (by kernel_rfl) (by kernel_rfl) (by kernel_rfl) (by kernel_rfl) (Nat.le_of_ble_eq_true rfl) (by simp [Go.Lf.Ty.top]) (by simp [Go.Lf.Ty.top]) fun z r h => (foliolaw06_StyleBack_eq z.1 z.2).trans h
noncomputable def folioref06_wholeCtx (self : (List ((List (UInt8)) × ((List (UInt8)) × (((Int) × ((Int) × ((Int) × (Unit)))) × (Unit))))) × (Int) → Option ((Int) × ((Int) × ((Int) × (Unit))))) : Go.Lf.Ctx := ⟨35, Tys2, [folioref06_FindEnt, folioref06_ThenEnt, (43, ⟨[.val (.sl (.st (.pr .str (.pr .str (.pr (.st (.pr (.int .i64) (.pr (.int .i64) (.pr (.int .i64) .unit)))) .unit))))), .val (.int .i64)], [(.st (.pr (.int .i64) (.pr (.int .i64) (.pr (.int .i64) .unit))))], self⟩), folioref06_NoneEnt], [], [], []⟩
noncomputable def folioref06_wholeCode : Go.Code := (Go.Proofs.Tryd.f43.body).getD .skip
def folioref06_wholeAnn : Go.Lf.Ann := (.seq .no (.seq .no (.seq (.join (.one .nrm ⟨[1, 0], [(4, 4, [], 0), (5, 5, [], 0)], [], [(4, 27, (.st (.pr (.int .i64) (.pr (.int .i64) (.pr (.int .i64) .unit))))), (5, 27, (.st (.pr (.int .i64) (.pr (.int .i64) (.pr (.int .i64) .unit)))))]⟩) .no) (.seq (.draw 7) .no))))
noncomputable def folioref06_wholeB (self : (List ((List (UInt8)) × ((List (UInt8)) × (((Int) × ((Int) × ((Int) × (Unit)))) × (Unit))))) × (Int) → Option ((Int) × ((Int) × ((Int) × (Unit))))) (a0 : List ((List (UInt8)) × ((List (UInt8)) × (((Int) × ((Int) × ((Int) × (Unit)))) × (Unit))))) (a1 : Int) : Option ((Int) × ((Int) × ((Int) × (Unit)))) :=
 (Go.Fn.folioref06_None).bind fun r1 =>
 (((Go.Lf.idx a0 a1)).bind fun r2 =>
   bif (decide ((r2.2.1 : List (UInt8)) ≠ ([] : List (UInt8)))) then ((Go.Lf.idx a0 a1)).bind fun r3 =>
   ((Go.Fn.folioref06_Find a0 r3.2.1)).bind fun r4 =>
   ((self (a0, r4.1))).bind fun r5 =>
   some (((0 : Int), ((0 : Int), ((0 : Int), ()))), r5)
   else some (((0 : Int), ((0 : Int), ((0 : Int), ()))), r1)).bind fun r6 =>
 ((Go.Lf.idx a0 a1)).bind fun r7 =>
 ((Go.Fn.folioref06_Then r6.2 r7.2.2.1)).bind fun r8 =>
 some r8
theorem folioref06_whole_eq (self : (List ((List (UInt8)) × ((List (UInt8)) × (((Int) × ((Int) × ((Int) × (Unit)))) × (Unit))))) × (Int) → Option ((Int) × ((Int) × ((Int) × (Unit))))) (a0 : List ((List (UInt8)) × ((List (UInt8)) × (((Int) × ((Int) × ((Int) × (Unit)))) × (Unit))))) (a1 : Int) : Go.Lf.fnE (folioref06_wholeCtx self) folioref06_wholeCode folioref06_wholeAnn [.val (.sl (.st (.pr .str (.pr .str (.pr (.st (.pr (.int .i64) (.pr (.int .i64) (.pr (.int .i64) .unit)))) .unit))))), .val (.int .i64)] [(.st (.pr (.int .i64) (.pr (.int .i64) (.pr (.int .i64) .unit))))] [.cell 4 27] (a0, a1) = folioref06_wholeB self a0 a1 := by kernel_rfl
noncomputable def folioref06_wholeN : Nat → (List ((List (UInt8)) × ((List (UInt8)) × (((Int) × ((Int) × ((Int) × (Unit)))) × (Unit))))) × (Int) → Option ((Int) × ((Int) × ((Int) × (Unit))))
 | 0 => fun _ => none
 | n + 1 => fun z => folioref06_wholeB (folioref06_wholeN n) z.1 z.2
noncomputable def folioref06_whole (a0 : List ((List (UInt8)) × ((List (UInt8)) × (((Int) × ((Int) × ((Int) × (Unit)))) × (Unit))))) (a1 : Int) : Option ((Int) × ((Int) × ((Int) × (Unit)))) := Go.Lf.supC fun n => folioref06_wholeN n (a0, a1)
noncomputable def folioref06_wholeEnt : Nat × Go.Lf.Entry := (43, ⟨[.val (.sl (.st (.pr .str (.pr .str (.pr (.st (.pr (.int .i64) (.pr (.int .i64) (.pr (.int .i64) .unit)))) .unit))))), .val (.int .i64)], [(.st (.pr (.int .i64) (.pr (.int .i64) (.pr (.int .i64) .unit))))], fun z => folioref06_whole z.1 z.2⟩)
theorem folioref06_whole_ok : Go.Lf.EntryOk Go.Proofs.Tryd.prog GG 43 folioref06_wholeEnt.2 :=
  Go.Lf.rec_ok (ps := [.val (.sl (.st (.pr .str (.pr .str (.pr (.st (.pr (.int .i64) (.pr (.int .i64) (.pr (.int .i64) .unit)))) .unit))))), .val (.int .i64)]) (rs := [(.st (.pr (.int .i64) (.pr (.int .i64) (.pr (.int .i64) .unit))))]) (N := folioref06_wholeN) Go.Proofs.Tryd.f43 (by kernel_rfl) (by kernel_rfl) (by kernel_rfl) (by simp [Go.Lf.Ty.top]) (fun _ => rfl) fun n ih => Go.Lf.fn_ok (c := folioref06_wholeCtx (folioref06_wholeN n)) (code := folioref06_wholeCode) (an := folioref06_wholeAnn) (slots := [.cell 4 27]) (fn := Go.Proofs.Tryd.f43) (by kernel_rfl) ⟨Tys2_ok, Go.Lf.FnsOk.look (.con folioref06_Find_ok (.con folioref06_Then_ok (.cons ih (.con folioref06_None_ok .nil))))⟩ (by kernel_rfl) (by kernel_rfl) (by kernel_rfl) (by kernel_rfl) (by kernel_rfl) (Nat.le_of_ble_eq_true rfl) (by simp [Go.Lf.Ty.top]) (by simp [Go.Lf.Ty.top]) fun z r h => (folioref06_whole_eq (folioref06_wholeN n) z.1 z.2).trans h
noncomputable def folioref06_WholeCtx : Go.Lf.Ctx := ⟨31, Tys2, [folioref06_CheckEnt, folioref06_FindEnt, folioref06_wholeEnt], [10], [], []⟩
noncomputable def folioref06_WholeCode : Go.Code := (Go.Proofs.Tryd.f28.body).getD .skip
def folioref06_WholeAnn : Go.Lf.Ann := .no
noncomputable def folioref06_Whole (a0 : List ((List (UInt8)) × ((List (UInt8)) × (((Int) × ((Int) × ((Int) × (Unit)))) × (Unit))))) (a1 : List (UInt8)) : Option (((Int) × ((Int) × ((Int) × (Unit)))) × (Int)) :=
 ((Go.Fn.folioref06_Check a0)).bind fun r1 =>
 bif (decide ((r1.2 : Int) ≠ (0 : Int))) then some (((0 : Int), ((0 : Int), ((0 : Int), ()))), r1.2)
 else ((Go.Fn.folioref06_Find a0 a1)).bind fun r2 =>
 bif (!r2.2) then some (((0 : Int), ((0 : Int), ((0 : Int), ()))), (66 : Int))
 else ((Go.Fn.folioref06_whole a0 r2.1)).bind fun r3 =>
 some (r3, (0 : Int))
theorem folioref06_Whole_eq (a0 : List ((List (UInt8)) × ((List (UInt8)) × (((Int) × ((Int) × ((Int) × (Unit)))) × (Unit))))) (a1 : List (UInt8)) : Go.Lf.fnE folioref06_WholeCtx folioref06_WholeCode folioref06_WholeAnn [.val (.sl (.st (.pr .str (.pr .str (.pr (.st (.pr (.int .i64) (.pr (.int .i64) (.pr (.int .i64) .unit)))) .unit))))), .val .str] [(.st (.pr (.int .i64) (.pr (.int .i64) (.pr (.int .i64) .unit)))), (.int .i64)] [.cell 4 27, .tmp 5] (a0, a1) = folioref06_Whole a0 a1 := by kernel_rfl
noncomputable def folioref06_WholeEnt : Nat × Go.Lf.Entry := (28, ⟨[.val (.sl (.st (.pr .str (.pr .str (.pr (.st (.pr (.int .i64) (.pr (.int .i64) (.pr (.int .i64) .unit)))) .unit))))), .val .str], [(.st (.pr (.int .i64) (.pr (.int .i64) (.pr (.int .i64) .unit)))), (.int .i64)], fun z => folioref06_Whole z.1 z.2⟩)
theorem folioref06_Whole_ok : Go.Lf.EntryOk Go.Proofs.Tryd.prog GG 28 folioref06_WholeEnt.2 :=
  Go.Lf.fn_ok (c := folioref06_WholeCtx) (code := folioref06_WholeCode) (an := folioref06_WholeAnn) (slots := [.cell 4 27, .tmp 5]) (fn := Go.Proofs.Tryd.f28) (by kernel_rfl) ⟨Tys2_ok, Go.Lf.FnsOk.look (.con folioref06_Check_ok (.con folioref06_Find_ok (.con folioref06_whole_ok .nil)))⟩ (by kernel_rfl) (by kernel_rfl) (by kernel_rfl) (by kernel_rfl) (by kernel_rfl) (Nat.le_of_ble_eq_true rfl) (by simp [Go.Lf.Ty.top]) (by simp [Go.Lf.Ty.top]) fun z r h => (folioref06_Whole_eq z.1 z.2).trans h
noncomputable def folioref06_PlainCtx : Go.Lf.Ctx := ⟨2, Tys2, [], [], [], []⟩
noncomputable def folioref06_PlainCode : Go.Code := (Go.Proofs.Tryd.f44.body).getD .skip
def folioref06_PlainAnn : Go.Lf.Ann := .no
noncomputable def folioref06_Plain  : Option ((Int) × ((Int) × (Unit))) :=
 some ((0 : Int), ((7 : Int), ()))
theorem folioref06_Plain_eq  : Go.Lf.fnE folioref06_PlainCtx folioref06_PlainCode folioref06_PlainAnn [] [(.st (.pr (.int .i64) (.pr (.int .i64) .unit)))] [.cell 0 40] () = folioref06_Plain  := by kernel_rfl
noncomputable def folioref06_PlainEnt : Nat × Go.Lf.Entry := (44, ⟨[], [(.st (.pr (.int .i64) (.pr (.int .i64) .unit)))], fun _ => folioref06_Plain ⟩)
theorem folioref06_Plain_ok : Go.Lf.EntryOk Go.Proofs.Tryd.prog GG 44 folioref06_PlainEnt.2 :=
  Go.Lf.fn_ok (c := folioref06_PlainCtx) (code := folioref06_PlainCode) (an := folioref06_PlainAnn) (slots := [.cell 0 40]) (fn := Go.Proofs.Tryd.f44) (by kernel_rfl) ⟨Tys2_ok, Go.Lf.FnsOk.look .nil⟩ (by kernel_rfl) (by kernel_rfl) (by kernel_rfl) (by kernel_rfl) (by kernel_rfl) (Nat.le_of_ble_eq_true rfl) (by simp [Go.Lf.Ty.top]) (by simp [Go.Lf.Ty.top]) fun z r h => (folioref06_Plain_eq ).trans h
noncomputable def folioref06_NestCtx : Go.Lf.Ctx := ⟨52, Tys2, [folioref06_CheckEnt, folioref06_FindEnt, folioref06_ApplyEnt, folioref06_wholeEnt, folioref06_PlainEnt], [13], [], []⟩
noncomputable def folioref06_NestCode : Go.Code := (Go.Proofs.Tryd.f30.body).getD .skip
def folioref06_NestAnn : Go.Lf.Ann := (.seq .no (.seq .no (.seq .no (.seq .no (.seq (.seq .no (.loop ⟨[0, 1], [(4, 4, [], 0), (9, 9, [], 0)], [(10, (.int .i64))], [(4, 40, (.st (.pr (.int .i64) (.pr (.int .i64) .unit)))), (9, 40, (.st (.pr (.int .i64) (.pr (.int .i64) .unit))))]⟩ (.more (.ext 0) ⟨[], [(4, 4, [], 0), (9, 9, [], 0)], [], [(4, 40, (.st (.pr (.int .i64) (.pr (.int .i64) .unit)))), (9, 40, (.st (.pr (.int .i64) (.pr (.int .i64) .unit))))]⟩ (.one .ret ⟨[], [(4, 4, [], 0)], [(5, (.int .i64)), (6, (.int .i64))], [(4, 40, (.st (.pr (.int .i64) (.pr (.int .i64) .unit))))]⟩)) (.seq .no (.seq (.seq .no (.seq .no (.draw 5))) .no)))) .no)))))
noncomputable def folioref06_Nest (a0 : List ((List (UInt8)) × ((List (UInt8)) × (((Int) × ((Int) × ((Int) × (Unit)))) × (Unit))))) (a1 : List (List (UInt8))) : Option (((Int) × ((Int) × (Unit))) × ((Int) × (Int))) :=
 ((Go.Fn.folioref06_Check a0)).bind fun r1 =>
 bif (decide ((r1.2 : Int) ≠ (0 : Int))) then some (((0 : Int), ((0 : Int), ())), ((0 : Int), r1.2))
 else bif (decide ((32 : Int) < (((List.length a1) : Nat) : Int))) then some (((0 : Int), ((0 : Int), ())), ((0 : Int), (2 : Int)))
 else (Go.Fn.folioref06_Plain).bind fun r2 =>
 (Go.Lf.loopC (σ := (Int) × (((Int) × ((Int) × (Unit))) × ((Int) × ((Int) × (Unit))))) (κ := (((Int) × ((Int) × (Unit))) × ((Int) × ((Int) × (Unit)))) ⊕ ((Int) × ((Int) × ((Int) × ((Int) × (Unit)))))) (fun z3 =>
     bif (decide (z3.1 < (((List.length a1) : Nat) : Int))) then ((Go.Lf.idx a1 z3.1)).bind fun r4 =>
     ((Go.Fn.folioref06_Find a0 r4)).bind fun r5 =>
     bif (!r5.2) then some (.inr (.inr (z3.1, ((66 : Int), ((0 : Int), ((0 : Int), ()))))))
     else ((Go.Fn.folioref06_whole a0 r5.1)).bind fun r6 =>
     ((Go.Fn.folioref06_Apply z3.2.2 r6)).bind fun r7 =>
     some (.inl ((Go.IntKind.wrap .i64 (z3.1 + (1 : Int))), (z3.2.1, r7)))
     else some (.inr (.inl (z3.2.1, z3.2.2)))) ((0 : Int), (((0 : Int), ((0 : Int), ())), r2)) : Option ((((Int) × ((Int) × (Unit))) × ((Int) × ((Int) × (Unit)))) ⊕ ((Int) × ((Int) × ((Int) × ((Int) × (Unit))))))).bind fun r8 =>
 Go.Lf.onSum r8 (fun a9 =>
 some (a9.2, ((0 : Int), (0 : Int)))) (fun b10 =>
 some (b10.2.2, (b10.1, b10.2.1)))
theorem folioref06_Nest_eq (a0 : List ((List (UInt8)) × ((List (UInt8)) × (((Int) × ((Int) × ((Int) × (Unit)))) × (Unit))))) (a1 : List (List (UInt8))) : Go.Lf.fnE folioref06_NestCtx folioref06_NestCode folioref06_NestAnn [.val (.sl (.st (.pr .str (.pr .str (.pr (.st (.pr (.int .i64) (.pr (.int .i64) (.pr (.int .i64) .unit)))) .unit))))), .val (.sl .str)] [(.st (.pr (.int .i64) (.pr (.int .i64) .unit))), (.int .i64), (.int .i64)] [.cell 4 40, .tmp 5, .tmp 6] (a0, a1) = folioref06_Nest a0 a1 := by kernel_rfl
noncomputable def folioref06_NestEnt : Nat × Go.Lf.Entry := (30, ⟨[.val (.sl (.st (.pr .str (.pr .str (.pr (.st (.pr (.int .i64) (.pr (.int .i64) (.pr (.int .i64) .unit)))) .unit))))), .val (.sl .str)], [(.st (.pr (.int .i64) (.pr (.int .i64) .unit))), (.int .i64), (.int .i64)], fun z => folioref06_Nest z.1 z.2⟩)
theorem folioref06_Nest_ok : Go.Lf.EntryOk Go.Proofs.Tryd.prog GG 30 folioref06_NestEnt.2 :=
  Go.Lf.fn_ok (c := folioref06_NestCtx) (code := folioref06_NestCode) (an := folioref06_NestAnn) (slots := [.cell 4 40, .tmp 5, .tmp 6]) (fn := Go.Proofs.Tryd.f30) (by kernel_rfl) ⟨Tys2_ok, Go.Lf.FnsOk.look (.con folioref06_Check_ok (.con folioref06_Find_ok (.con folioref06_Apply_ok (.con folioref06_whole_ok (.con folioref06_Plain_ok .nil)))))⟩ (by kernel_rfl) (by kernel_rfl) (by kernel_rfl) (by kernel_rfl) (by kernel_rfl) (Nat.le_of_ble_eq_true rfl) (by simp [Go.Lf.Ty.top]) (by simp [Go.Lf.Ty.top]) fun z r h => (folioref06_Nest_eq z.1 z.2).trans h
end Go.Fn
