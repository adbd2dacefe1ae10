/- Parts of the proof. -/
import Derived.Test.YthfjjohdpoekjaaGreatDoorProg
import Derived.Test.YthfjjohdpoekjaaGreatDoorQAD
import Derived.KernelRfl
import Derived.Lib.MapLaws
import Derived.Lib.TrimU
import Derived.Lib.TrimUEq
open Go Go.Lf
set_option maxRecDepth 10000
namespace Go.Fn
noncomputable def kP (a0:List ((Int)×((Int)×BL))):Option (List ((Int)×((Int)×BL))):=
 (Lf.aG (σ:=(Int)×(List ((Int)×((Int)×BL)))) (κ:=List ((Int)×((Int)×BL))) (fun z1=>
   bif (decide (z1.1<(((List.length a0):Nat):Int))) then ((Lf.idx a0 z1.1)).bind fun r2=>
   ((Lf.app (8:Nat) ([]:List (Int)) r2.2.2.2.1)).bind fun r3=>
   ((Lf.app (56:Nat) z1.2 ((Lf.u3 r2 (r3,r2.2.2.2.2))::([]:List ((Int)×((Int)×BL)))))).bind fun r4=>
   some (.inl ((Go.IntKind.wrap .i64 (z1.1+(1:Int))),r4))
   else some (.inr z1.2)) ((0:Int),([]:List ((Int)×((Int)×BL)))):Option (List ((Int)×((Int)×BL)))).bind fun r5=>
 some r5
noncomputable def rU:Nat×Lf.Entry:=(7,⟨[.val (.sl (.st dY))],[(.rw 44 (.st dY))],fun z=>kP z⟩)
theorem yx:Lf.aa Go.Proofs.Tryz.prog GG 7 rU.2:=Kx Go.Proofs.Tryz.f7 22 [] [2,3,16,21] [] [(2,(.rw 44 (.st dY))),(3,(.rw 44 (.st dY))),(16,(.rw 44 (.st dY))),(21,(.rw 44 (.st dY)))] (.seq .no (.seq .no (.seq (.seq .no (.loop ⟨[6,7],[],[(8,(.int .i64)),(3,(.rw 44 (.st dY)))],[],[]⟩ (.one (.ext 0) ⟨[],[],[(3,(.rw 44 (.st dY)))],[],[]⟩) .no)) .no))) [.tmp 2] .nil (fun z=>by kernel_rfl) (by kernel_rfl)
noncomputable def kQ (a0:List ((Int)×((Int)×BL))):Option (Bool):=
 (Lf.aG (σ:=Int) (κ:=(Unit)⊕(Bool)) (fun z1=>
   bif (decide (z1<(((List.length a0):Nat):Int))) then ((Lf.idx a0 z1)).bind fun r2=>
   bif (decide ((10:Int)≤r2.1)) then some (.inr (.inr false))
   else some (.inl (Go.IntKind.wrap .i64 (z1+(1:Int))))
   else some (.inr (.inl ()))) (0:Int):Option ((Unit)⊕(Bool))).bind fun r3=>
 Lf.bC r3 (fun a4=>
 some true) (fun b5=>
 some b5)
noncomputable def qO:Nat×Lf.Entry:=(5,⟨[.val (.sl (.st dY))],[.bool],fun z=>kQ z⟩)
theorem yP:Lf.aa Go.Proofs.Tryz.prog GG 5 qO.2:=Kx Go.Proofs.Tryz.f5 15 [] [] [] [] (.seq .no (.seq (.seq .no (.loop ⟨[5,6],[],[(7,(.int .i64))],[],[]⟩ (.more (.ext 0) ⟨[],[],[],[],[]⟩ (.one .ret ⟨[],[],[(2, .bool)],[],[]⟩)) .no)) .no)) [.tmp 2] .nil (fun z=>by kernel_rfl) (by kernel_rfl)
noncomputable def lM (a0:List (List ae)):Option (List eB):=
 (Lf.aG (σ:=(List eB)×(Int)) (κ:=List eB) (fun z1=>
   bif (decide (z1.2<(((List.length a0):Nat):Int))) then ((Lf.idx a0 z1.2)).bind fun r2=>
   (Lf.aG (σ:=(Int)×((Int)×((List eB)×(Int)))) (κ:=List eB) (fun z3=>
     bif (decide (z3.1<(((List.length r2):Nat):Int))) then ((Lf.idx r2 z3.1)).bind fun r4=>
     ((bif (decide ((r4.2.2.2.1:Int)≠(0:Int))) then some ((decide ((r4.2.2.2.1:Int)=z3.2.2.2)),(z3.2.2.1,r4))
       else some (false,(z3.2.2.1,r4))).bind fun r5=>
      bif r5.1 then ((Lf.lG (List.length r5.2.1) (Go.IntKind.wrap .i64 ((((List.length r5.2.1):Nat):Int) - (1:Int))))).bind fun r6=>
      ((Lf.nth r5.2.1 r6)).bind fun r7=>
      ((Lf.lG (List.length r5.2.1) (Go.IntKind.wrap .i64 ((((List.length r5.2.1):Nat):Int) - (1:Int))))).bind fun r8=>
      ((Lf.nth r5.2.1 r8)).bind fun r9=>
      some ((List.set r5.2.1 r8 (Lf.u2 r9 ((Go.IntKind.wrap .i64 (r7.2.2.1+r5.2.2.2.1)),r9.2.2.2))),r5.2.2)
      else bif (decide ((r5.2.2.2.2.2.1:Int)≠(0:Int))) then ((Lf.app (32:Nat) r5.2.1 ((z1.2,(z3.2.1,(r5.2.2.2.1,r5.2.2.2.2.2)))::([]:List eB)))).bind fun r10=>
      some (r10,r5.2.2)
      else some r5.2).bind fun r11=>
     some (.inl ((Go.IntKind.wrap .i64 (z3.1+(1:Int))),((Go.IntKind.wrap .i64 (z3.2.1+r11.2.2.1)),(r11.1,r11.2.2.2.2.1))))
     else some (.inr z3.2.2.1)) ((0:Int),((0:Int),(z1.1,(0:Int)))):Option (List eB)).bind fun r12=>
   some (.inl (r12,(Go.IntKind.wrap .i64 (z1.2+(1:Int)))))
   else some (.inr z1.1)) (([]:List eB),(0:Int)):Option (List eB)).bind fun r13=>
 some r13
noncomputable def oI:Nat×Lf.Entry:=(13,⟨[.val (.sl (.sl (.st ax)))],[(.sl (.st kC))],fun z=>lM z⟩)
theorem uU:Lf.aa Go.Proofs.Tryz.prog GG 13 oI.2:=Kx Go.Proofs.Tryz.f13 66 [] [] [] [(3,(.mr 61 (.st kC)))] (.seq .no (.seq .no (.seq (.seq .no (.loop ⟨[10,11],[],[(3,(.mr 61 (.st kC))),(12,(.int .i64))],[],[]⟩ (.one (.ext 0) ⟨[],[],[(3,(.mr 61 (.st kC)))],[],[]⟩) (.seq .no (.seq .no (.seq (.seq .no (.seq .no (.seq .no (.loop ⟨[4,17,10,11,12,18],[],[(19,(.int .i64)),(6,(.int .i64)),(3,(.mr 61 (.st kC))),(7,(.int .i64))],[],[]⟩ (.one (.ext 2) ⟨[10,11,12],[],[(3,(.mr 61 (.st kC)))],[],[]⟩) (.seq .no (.seq .no (.seq (.seq .no (.seq (.join (.one .aM ⟨[4,17,10,11,12,18,19,6],[(9, .ref 9 [] 0)],[(3,(.mr 61 (.st kC)))],[(9,52,(.st ax))],[]⟩) (.seq (.join (.one .aM ⟨[4,17,10,11,12,18,19,6],[(9, .ref 9 [] 0)],[(31, .bool),(3,(.mr 61 (.st kC)))],[(9,52,(.st ax))],[]⟩) .no) (.cnd (.draw 12) .no))) (.draw 8))) .no))))))) .no))))) .no))) [.tmp 2] .nil (fun z=>by kernel_rfl) (by kernel_rfl)
noncomputable def CK (a0:(List (List ae))×((List eB)×R6)) (a1:Int) (a2:Int):Option ((Int)×(Bool)):=
 (Lf.aG (σ:=Int) (κ:=(Unit)⊕((Int)×(Bool))) (fun z1=>
   bif (decide (z1<(((List.length a0.2.1):Nat):Int))) then ((Lf.idx a0.2.1 z1)).bind fun r2=>
   (bif (decide ((r2.1:Int)=a1)) then bif (decide (r2.2.1≤a2)) then bif (decide ((0:Int)<r2.2.2.1)) then some ((decide ((Go.IntKind.wrap .u64 ((Go.IntKind.wrap .u64 a2) - (Go.IntKind.wrap .u64 r2.2.1)))<(Go.IntKind.wrap .u64 r2.2.2.1))),r2)
    else some (false,r2)
    else some (false,r2)
    else some (false,r2)).bind fun r3=>
   bif r3.1 then some (.inr (.inr (r3.2.2.2.2.1,true)))
   else some (.inl (Go.IntKind.wrap .i64 (z1+(1:Int))))
   else some (.inr (.inl ()))) (0:Int):Option ((Unit)⊕((Int)×(Bool)))).bind fun r4=>
 Lf.bC r4 (fun a5=>
 some ((0:Int),false)) (fun b6=>
 some b6)
noncomputable def xY:Nat×Lf.Entry:=(14,⟨[.val (.st bJ), .val (.int .i64), .val (.int .i64)],[(.int .i64), .bool],fun z=>CK z.1 z.2.1 z.2.2⟩)
theorem Ev:Lf.aa Go.Proofs.Tryz.prog GG 14 xY.2:=Kx Go.Proofs.Tryz.f14 47 [] [] [] [] (.seq .no (.seq (.seq .no (.loop ⟨[2,1,11,12],[],[(13,(.int .i64))],[],[]⟩ (.more (.ext 0) ⟨[],[],[],[],[]⟩ (.one .ret ⟨[],[],[(6,(.int .i64)),(7, .bool)],[],[]⟩)) (.seq .no (.seq .no (.seq (.seq .no (.seq (.join (.one .aM ⟨[2,1,11,12,13],[(9, .ref 9 [] 0)],[(43, .bool)],[(9,61,(.st kC))],[]⟩) .no) .no)) .no))))) .no)) [.tmp 6, .tmp 7] .nil (fun z=>by kernel_rfl) (by kernel_rfl)
noncomputable def Bt (a0:(List (List ae))×((List eB)×R6)) (a1:(List (List ae))×((List eB)×R6)):Option (Bool):=
 (bif (!(decide (((((List.length a0.1):Nat):Int):Int)≠(((List.length a1.1):Nat):Int)))) then bif (!(decide (((((List.length a0.2.1):Nat):Int):Int)≠(((List.length a1.2.1):Nat):Int)))) then bif (!(decide (((((List.length a0.2.2.1):Nat):Int):Int)≠(((List.length a1.2.2.1):Nat):Int)))) then some ((decide ((a0.2.2.2.1:Bool)≠a1.2.2.2.1)),(a1,a0))
  else some (true,(a1,a0))
  else some (true,(a1,a0))
  else some (true,(a1,a0))).bind fun r1=>
 bif r1.1 then some false
 else (Lf.aG (σ:=(Int)×(iI×iI)) (κ:=(iI×iI)⊕(Bool)) (fun z2=>
   bif (decide (z2.1<(((List.length r1.2.2.1):Nat):Int))) then ((Lf.idx z2.2.2.1 z2.1)).bind fun r3=>
   ((Lf.idx z2.2.1.1 z2.1)).bind fun r4=>
   bif (decide (((((List.length r3):Nat):Int):Int)≠(((List.length r4):Nat):Int))) then some (.inr (.inr false))
   else ((Lf.idx z2.2.2.1 z2.1)).bind fun r5=>
   (Lf.aG (σ:=(Int)×(iI×iI)) (κ:=(iI×iI)⊕(Bool)) (fun z6=>
     bif (decide (z6.1<(((List.length r5):Nat):Int))) then ((Lf.idx z6.2.2.1 z2.1)).bind fun r7=>
     ((Lf.idx r7 z6.1)).bind fun r8=>
     ((Lf.idx z6.2.1.1 z2.1)).bind fun r9=>
     ((Lf.idx r9 z6.1)).bind fun r10=>
     bif (!(bif (decide ((r8.1:List (UInt8))=r10.1)) then (bif (decide ((r8.2.1:Int)=r10.2.1)) then (bif (bif (decide ((r8.2.2.1.1:Int)=r10.2.2.1.1)) then (bif (decide ((r8.2.2.1.2.1:Int)=r10.2.2.1.2.1)) then true else false) else false) then (bif (decide ((r8.2.2.2.1:Int)=r10.2.2.2.1)) then true else false) else false) else false) else false)) then some (.inr (.inr false))
     else some (.inl ((Go.IntKind.wrap .i64 (z6.1+(1:Int))),z6.2))
     else some (.inr (.inl z6.2))) ((0:Int),z2.2):Option ((iI×iI)⊕(Bool))).bind fun r11=>
   Lf.bC r11 (fun a12=>
   some (.inl ((Go.IntKind.wrap .i64 (z2.1+(1:Int))),a12))) (fun b13=>
   some (.inr (.inr b13)))
   else some (.inr (.inl z2.2))) ((0:Int),r1.2):Option ((iI×iI)⊕(Bool))).bind fun r14=>
 Lf.bC r14 (fun a15=>
 (Lf.aG (σ:=(Int)×(iI×iI)) (κ:=(iI×iI)⊕(Bool)) (fun z16=>
   bif (decide (z16.1<(((List.length a15.2.2.1):Nat):Int))) then ((Lf.idx z16.2.2.2.1 z16.1)).bind fun r17=>
   ((Lf.idx z16.2.1.2.1 z16.1)).bind fun r18=>
   bif (!(bif (decide ((r17.1:Int)=r18.1)) then (bif (decide ((r17.2.1:Int)=r18.2.1)) then (bif (decide ((r17.2.2.1:Int)=r18.2.2.1)) then (bif (decide ((r17.2.2.2.1:Int)=r18.2.2.2.1)) then true else false) else false) else false) else false)) then some (.inr (.inr false))
   else some (.inl ((Go.IntKind.wrap .i64 (z16.1+(1:Int))),z16.2))
   else some (.inr (.inl z16.2))) ((0:Int),a15):Option ((iI×iI)⊕(Bool))).bind fun r19=>
 Lf.bC r19 (fun a20=>
 (Lf.aG (σ:=(Int)×(iI×iI)) (κ:=(Unit)⊕(Bool)) (fun z21=>
   bif (decide (z21.1<(((List.length a20.2.2.2.1):Nat):Int))) then ((Lf.idx z21.2.2.2.2.1 z21.1)).bind fun r22=>
   ((Lf.idx z21.2.1.2.2.1 z21.1)).bind fun r23=>
   bif (!(bif (decide ((r22.1:Int)=r23.1)) then (bif (decide ((r22.2.1:Int)=r23.2.1)) then true else false) else false)) then some (.inr (.inr false))
   else some (.inl ((Go.IntKind.wrap .i64 (z21.1+(1:Int))),z21.2))
   else some (.inr (.inl ()))) ((0:Int),a20):Option ((Unit)⊕(Bool))).bind fun r24=>
 Lf.bC r24 (fun a25=>
 some true) (fun b26=>
 some b26)) (fun b27=>
 some b27)) (fun b28=>
 some b28)
noncomputable def wu:Nat×Lf.Entry:=(15,⟨[.val (.st bJ), .val (.st bJ)],[.bool],fun z=>Bt z.1 z.2⟩)
theorem DI:Lf.aa Go.Proofs.Tryz.prog GG 15 wu.2:=Kx Go.Proofs.Tryz.f15 124 [] [] [] [] (.seq .no (.seq (.seq (.join (.one .aM ⟨[],[(3, .ref 3 [] 0),(2, .ref 2 [] 0)],[(40, .bool)],[(3,30,(.st bJ)),(2,30,(.st bJ))],[]⟩) .no) .no) (.seq (.seq .no (.loop ⟨[43],[(3, .ref 3 [] 0),(2, .ref 2 [] 0)],[(44,(.int .i64))],[(3,30,(.st bJ)),(2,30,(.st bJ))],[]⟩ (.more (.ext 0) ⟨[],[(3, .ref 3 [] 0),(2, .ref 2 [] 0)],[],[(3,30,(.st bJ)),(2,30,(.st bJ))],[]⟩ (.one .ret ⟨[],[],[(4, .bool)],[],[]⟩)) (.seq .no (.seq .no (.seq (.seq .no (.seq (.seq (.draw 13) .no) (.seq .no (.loop ⟨[5,43,44,65],[(3, .ref 3 [] 0),(2, .ref 2 [] 0)],[(66,(.int .i64))],[(3,30,(.st bJ)),(2,30,(.st bJ))],[]⟩ (.more (.ext 2) ⟨[43,44],[(3, .ref 3 [] 0),(2, .ref 2 [] 0)],[],[(3,30,(.st bJ)),(2,30,(.st bJ))],[]⟩ (.one .ret ⟨[],[],[(4, .bool)],[],[]⟩)) (.seq .no (.seq .no (.seq (.seq .no (.seq (.draw 17) .no)) .no))))))) .no))))) (.seq (.seq .no (.loop ⟨[90],[(3, .ref 3 [] 0),(2, .ref 2 [] 0)],[(91,(.int .i64))],[(3,30,(.st bJ)),(2,30,(.st bJ))],[]⟩ (.more (.ext 4) ⟨[],[(3, .ref 3 [] 0),(2, .ref 2 [] 0)],[],[(3,30,(.st bJ)),(2,30,(.st bJ))],[]⟩ (.one .ret ⟨[],[],[(4, .bool)],[],[]⟩)) (.seq .no (.seq .no (.seq (.seq .no (.seq (.draw 11) .no)) .no))))) (.seq (.seq .no (.loop ⟨[108],[(3, .ref 3 [] 0),(2, .ref 2 [] 0)],[(109,(.int .i64))],[(3,30,(.st bJ)),(2,30,(.st bJ))],[]⟩ (.more (.ext 6) ⟨[],[],[],[],[]⟩ (.one .ret ⟨[],[],[(4, .bool)],[],[]⟩)) (.seq .no (.seq .no (.seq (.seq .no (.seq (.draw 11) .no)) .no))))) .no))))) [.tmp 4] .nil (fun z=>by kernel_rfl) (by kernel_rfl)
noncomputable def gM (a0:List (UInt8)):Option (List Eh):=
 (Lf.aG (σ:=(List Eh)×((List (UInt8))×(Int))) (κ:=List Eh) (fun z1=>
   bif (decide (z1.2.2<(((List.length z1.2.1):Nat):Int))) then ((Lf.app (32:Nat) z1.1 (((Lf.Ab z1.2.1 z1.2.2),(z1.2.2,((0:Int),(false,()))))::([]:List Eh)))).bind fun r2=>
   some (.inl (r2,(z1.2.1,(z1.2.2+(Lf.Bb z1.2.1 z1.2.2)))))
   else some (.inr z1.1)) (([]:List Eh),(a0,(0:Int))):Option (List Eh)).bind fun r3=>
 (Lf.aG (σ:=(Int)×(List Eh)) (κ:=List Eh) (fun z4=>
   bif (decide (z4.1<(((List.length z4.2):Nat):Int))) then ((bif (decide ((Go.IntKind.wrap .i64 (z4.1+(1:Int)))<(((List.length z4.2):Nat):Int))) then ((Lf.lG (List.length z4.2) (Go.IntKind.wrap .i64 (z4.1+(1:Int))))).bind fun r5=>
     ((Lf.nth z4.2 r5)).bind fun r6=>
     some (z4.2,r6.2.1)
     else some (z4.2,(((List.length a0):Nat):Int))).bind fun r7=>
    ((Lf.lG (List.length r7.1) z4.1)).bind fun r8=>
    ((Lf.nth r7.1 r8)).bind fun r9=>
    ((Lf.lG (List.length r7.1) z4.1)).bind fun r10=>
    ((Lf.nth r7.1 r10)).bind fun r11=>
    ((Lf.lG (List.length (List.set r7.1 r10 (Lf.u2 r11 ((Go.IntKind.wrap .i64 (r7.2 - r9.2.1)),r11.2.2.2)))) z4.1)).bind fun r12=>
    ((Lf.nth (List.set r7.1 r10 (Lf.u2 r11 ((Go.IntKind.wrap .i64 (r7.2 - r9.2.1)),r11.2.2.2))) r12)).bind fun r13=>
    bif (decide ((r13.1:Int)=(65533:Int))) then ((Lf.lG (List.length (List.set r7.1 r10 (Lf.u2 r11 ((Go.IntKind.wrap .i64 (r7.2 - r9.2.1)),r11.2.2.2)))) z4.1)).bind fun r14=>
    ((Lf.nth (List.set r7.1 r10 (Lf.u2 r11 ((Go.IntKind.wrap .i64 (r7.2 - r9.2.1)),r11.2.2.2))) r14)).bind fun r15=>
    ((Lf.lG (List.length (List.set r7.1 r10 (Lf.u2 r11 ((Go.IntKind.wrap .i64 (r7.2 - r9.2.1)),r11.2.2.2)))) z4.1)).bind fun r16=>
    ((Lf.nth (List.set r7.1 r10 (Lf.u2 r11 ((Go.IntKind.wrap .i64 (r7.2 - r9.2.1)),r11.2.2.2))) r16)).bind fun r17=>
    some (List.set (List.set r7.1 r10 (Lf.u2 r11 ((Go.IntKind.wrap .i64 (r7.2 - r9.2.1)),r11.2.2.2))) r16 (Lf.u3 r17 ((decide ((r15.2.2.1:Int)=(1:Int))),r17.2.2.2.2)))
    else ((Lf.lG (List.length (List.set r7.1 r10 (Lf.u2 r11 ((Go.IntKind.wrap .i64 (r7.2 - r9.2.1)),r11.2.2.2)))) z4.1)).bind fun r18=>
    ((Lf.nth (List.set r7.1 r10 (Lf.u2 r11 ((Go.IntKind.wrap .i64 (r7.2 - r9.2.1)),r11.2.2.2))) r18)).bind fun r19=>
    some (List.set (List.set r7.1 r10 (Lf.u2 r11 ((Go.IntKind.wrap .i64 (r7.2 - r9.2.1)),r11.2.2.2))) r18 (Lf.u3 r19 (false,r19.2.2.2.2)))).bind fun r20=>
   some (.inl ((Go.IntKind.wrap .i64 (z4.1+(1:Int))),r20))
   else some (.inr z4.2)) ((0:Int),r3):Option (List Eh)).bind fun r21=>
 some r21
noncomputable def j6:Nat×Lf.Entry:=(25,⟨[.val .str],[(.sl BN)],fun z=>gM z⟩)
theorem pF:Lf.aa Go.Proofs.Tryz.prog GG 25 j6.2:=Kx Go.Proofs.Tryz.f25 69 [] [] [] [(3,(.mr 98 BN)),(19,(.mr 98 BN))] (.seq .no (.seq .no (.seq (.seq .no (.loop ⟨[0],[],[(3,(.mr 98 BN)),(9, .it)],[],[]⟩ (.one (.ext 0) ⟨[0],[],[(3,(.mr 98 BN))],[],[]⟩) .no)) (.seq (.seq .no (.loop ⟨[0],[],[(6,(.int .i64)),(3,(.mr 98 BN))],[],[]⟩ (.one (.ext 2) ⟨[],[],[(3,(.mr 98 BN))],[],[]⟩) (.seq .no (.seq (.join (.one .aM ⟨[0,6],[],[(3,(.mr 98 BN))],[],[]⟩) (.seq .no (.seq (.join (.one .aM ⟨[0,6],[],[(3,(.mr 98 BN)),(7,(.int .i64))],[],[]⟩) .no) .no))) .no)))) .no)))) [.tmp 2] .nil (fun z=>by kernel_rfl) (by kernel_rfl)
noncomputable def dR (a0:Int):Option (Bool):=
 (bif (decide ((0:Int)≤a0)) then bif (!(decide (a0<(32:Int)))) then bif (decide ((127:Int)≤a0)) then some (decide (a0≤(159:Int)))
  else some false
  else some true
  else bif (decide ((127:Int)≤a0)) then some (decide (a0≤(159:Int)))
  else some false).bind fun r1=>
 some r1
noncomputable def iR:Nat×Lf.Entry:=(67,⟨[.val (.int .i32)],[.bool],fun z=>dR z⟩)
theorem mo:Lf.aa Go.Proofs.Tryz.prog GG 67 iR.2:=Kx Go.Proofs.Tryz.f67 17 [] [] [] [] (.seq .no (.seq (.join (.one .aM ⟨[],[],[(2, .bool)],[],[]⟩) .no) .no)) [.tmp 2] .nil (fun z=>by kernel_rfl) (by kernel_rfl)
noncomputable def aB (a0:Int) (a1:Int) (a2:Int):Option (Bool):=
 (bif (decide (a1≤a0)) then some (decide (a0≤a2))
  else some false).bind fun r1=>
 some r1
noncomputable def tq:Nat×Lf.Entry:=(68,⟨[.val (.int .i32), .val (.int .i32), .val (.int .i32)],[.bool],fun z=>aB z.1 z.2.1 z.2.2⟩)
theorem Ag:Lf.aa Go.Proofs.Tryz.prog GG 68 tq.2:=Kx Go.Proofs.Tryz.f68 15 [] [] [] [] (.seq .no (.seq (.join (.one .aM ⟨[],[],[(6, .bool)],[],[]⟩) .no) .no)) [.tmp 6] .nil (fun z=>by kernel_rfl) (by kernel_rfl)
noncomputable def gQ (a0:Int):Option (Int):=
 (((Go.Fn.dR a0)).bind fun r1=>
  bif (!r1) then ((Go.Fn.aB a0 (768:Int) (879:Int))).bind fun r2=>
  bif (!r2) then ((Go.Fn.aB a0 (8203:Int) (8205:Int))).bind fun r3=>
  bif (!r3) then ((Go.Fn.aB a0 (65024:Int) (65039:Int))).bind fun r4=>
  some r4
  else some true
  else some true
  else some true).bind fun r5=>
 bif r5 then some (0:Int)
 else (((Go.Fn.aB a0 (4352:Int) (4447:Int))).bind fun r6=>
  bif (!r6) then ((Go.Fn.aB a0 (11904:Int) (12350:Int))).bind fun r7=>
  bif (!r7) then ((Go.Fn.aB a0 (12353:Int) (13311:Int))).bind fun r8=>
  bif (!r8) then ((Go.Fn.aB a0 (13312:Int) (19903:Int))).bind fun r9=>
  bif (!r9) then ((Go.Fn.aB a0 (19968:Int) (42191:Int))).bind fun r10=>
  bif (!r10) then ((Go.Fn.aB a0 (44032:Int) (55203:Int))).bind fun r11=>
  some r11
  else some true
  else some true
  else some true
  else some true
  else some true).bind fun r12=>
 bif r12 then some (2:Int)
 else (((Go.Fn.aB a0 (63744:Int) (64255:Int))).bind fun r13=>
  bif (!r13) then ((Go.Fn.aB a0 (65072:Int) (65135:Int))).bind fun r14=>
  bif (!r14) then ((Go.Fn.aB a0 (65280:Int) (65376:Int))).bind fun r15=>
  bif (!r15) then ((Go.Fn.aB a0 (65504:Int) (65510:Int))).bind fun r16=>
  bif (!r16) then ((Go.Fn.aB a0 (127744:Int) (128591:Int))).bind fun r17=>
  bif (!r17) then ((Go.Fn.aB a0 (129280:Int) (129535:Int))).bind fun r18=>
  bif (!r18) then ((Go.Fn.aB a0 (131072:Int) (262141:Int))).bind fun r19=>
  some r19
  else some true
  else some true
  else some true
  else some true
  else some true
  else some true).bind fun r20=>
 bif r20 then some (2:Int)
 else some (1:Int)
noncomputable def oW:Nat×Lf.Entry:=(26,⟨[.val (.int .i32)],[(.int .i64)],fun z=>gQ z⟩)
theorem xG:Lf.aa Go.Proofs.Tryz.prog GG 26 oW.2:=Kx Go.Proofs.Tryz.f26 65 [iR,tq] [] [] [] (.seq .no (.seq (.seq (.join (.one .aM ⟨[0],[],[(16, .bool)],[],[]⟩) .no) .no) (.seq (.seq (.join (.one .aM ⟨[0],[],[(38, .bool)],[],[]⟩) .no) .no) (.seq (.seq (.join (.one .aM ⟨[],[],[(64, .bool)],[],[]⟩) .no) .no) .no)))) [.tmp 2] (.bq mo (.bq Ag .nil)) (fun z=>by kernel_rfl) (by kernel_rfl)
noncomputable def dQ (a0:List (UInt8)):Option (List NL):=
 ((Go.Fn.gM a0)).bind fun r1=>
 (Lf.aG (σ:=(Int)×(List NL)) (κ:=List NL) (fun z2=>
   bif (decide (z2.1<(((List.length r1):Nat):Int))) then (((Lf.idx r1 z2.1)).bind fun r3=>
    ((Go.Fn.gQ r3.1)).bind fun r4=>
    ((Lf.idx r1 z2.1)).bind fun r5=>
    ((Lf.idx r1 z2.1)).bind fun r6=>
    ((Lf.idx r1 z2.1)).bind fun r7=>
    ((Lf.sub a0 r5.2.1 (Go.IntKind.wrap .i64 (r6.2.1+r7.2.2.1)))).bind fun r8=>
    (bif (decide ((r4:Int)=(0:Int))) then some ((decide ((0:Int)<(((List.length z2.2):Nat):Int))),z2.2)
     else some (false,z2.2)).bind fun r9=>
    bif r9.1 then ((Lf.lG (List.length r9.2) (Go.IntKind.wrap .i64 ((((List.length r9.2):Nat):Int) - (1:Int))))).bind fun r10=>
    ((Lf.nth r9.2 r10)).bind fun r11=>
    ((Lf.cat r11.1 r8)).bind fun r12=>
    ((Lf.lG (List.length r9.2) (Go.IntKind.wrap .i64 ((((List.length r9.2):Nat):Int) - (1:Int))))).bind fun r13=>
    ((Lf.nth r9.2 r13)).bind fun r14=>
    some (List.set r9.2 r13 (r12,r14.2))
    else ((Lf.idx r1 z2.1)).bind fun r15=>
    ((Lf.app (32:Nat) r9.2 ((r8,(r15.2.1,((Max.max r4 (1:Int)),())))::([]:List NL)))).bind fun r16=>
    some r16).bind fun r17=>
   some (.inl ((Go.IntKind.wrap .i64 (z2.1+(1:Int))),r17))
   else some (.inr z2.2)) ((0:Int),([]:List NL)):Option (List NL)).bind fun r18=>
 some r18
noncomputable def ko:Nat×Lf.Entry:=(10,⟨[.val .str],[(.sl (.st (.pr .str bM)))],fun z=>dQ z⟩)
theorem pV:Lf.aa Go.Proofs.Tryz.prog GG 10 ko.2:=Kx Go.Proofs.Tryz.f10 75 [j6,oW] [] [] [(3,(.mr 48 (.st (.pr .str bM)))),(73,(.mr 48 (.st (.pr .str bM))))] (.seq .no (.seq .no (.seq .no (.seq (.seq .no (.loop ⟨[4,0],[],[(5,(.int .i64)),(3,(.mr 48 (.st (.pr .str bM))))],[],[]⟩ (.one (.ext 0) ⟨[],[],[(3,(.mr 48 (.st (.pr .str bM))))],[],[]⟩) (.seq .no (.seq (.join (.one .aM ⟨[4,0,5],[],[(3,(.mr 48 (.st (.pr .str bM))))],[],[]⟩) (.seq .no (.seq (.draw 19) (.seq (.seq (.join (.one .aM ⟨[4,0,5,7,6],[],[(46, .bool),(3,(.mr 48 (.st (.pr .str bM))))],[],[]⟩) .no) .no) .no)))) .no)))) .no)))) [.tmp 2] (.bq pF (.bq xG .nil)) (fun z=>by kernel_rfl) (by kernel_rfl)
noncomputable def jL (a0:List (UInt8)):Option ((Int)×(Bool)):=
 ((Go.Fn.gM a0)).bind fun r1=>
 (Lf.aG (σ:=Int) (κ:=(Unit)⊕((Int)×(Bool))) (fun z2=>
   bif (decide (z2<(((List.length r1):Nat):Int))) then (((Lf.idx r1 z2)).bind fun r3=>
    bif (!r3.2.2.2.1) then ((Lf.idx r1 z2)).bind fun r4=>
    ((Go.Fn.dR r4.1)).bind fun r5=>
    some r5
    else some true).bind fun r6=>
   bif r6 then ((Lf.idx r1 z2)).bind fun r7=>
   some (.inr (.inr (r7.2.1,false)))
   else some (.inl (Go.IntKind.wrap .i64 (z2+(1:Int))))
   else some (.inr (.inl ()))) (0:Int):Option ((Unit)⊕((Int)×(Bool)))).bind fun r8=>
 Lf.bC r8 (fun a9=>
 some ((0:Int),true)) (fun b10=>
 some b10)
noncomputable def o_:Nat×Lf.Entry:=(89,⟨[.val .str],[(.int .i64), .bool],fun z=>jL z⟩)
theorem xg:Lf.aa Go.Proofs.Tryz.prog GG 89 o_.2:=Kx Go.Proofs.Tryz.f89 32 [j6,iR] [] [] [] (.seq .no (.seq .no (.seq (.seq .no (.loop ⟨[4],[],[(5,(.int .i64))],[],[]⟩ (.more (.ext 0) ⟨[],[],[],[],[]⟩ (.one .ret ⟨[],[],[(2,(.int .i64)),(3, .bool)],[],[]⟩)) (.seq .no (.seq (.seq (.join (.one .aM ⟨[5,4],[],[(26, .bool)],[],[]⟩) .no) .no) .no)))) .no))) [.tmp 2, .tmp 3] (.bq pF (.bq mo .nil)) (fun z=>by kernel_rfl) (by kernel_rfl)
end Go.Fn
open Go Go.Lf
set_option maxRecDepth 10000
namespace Go.Fn
noncomputable def uL:Lf.RP:=⟨⟨70,NP,[],[],[],[],[],uN,[],some 4000,uK,[]⟩,(Go.Proofs.Tryz.f81.body).getD .skip, .seq .no (.seq (.join (.more .ret ⟨[],[],[(2, .int .i64)],[],[]⟩ (.one .aM ⟨[0],[],[],[],[]⟩)) (.seq (.join (.more .aM ⟨[0],[],[],[],[]⟩ (.one (.ext 0) ⟨[0],[],[],[],[]⟩)) (.seq (.seq (.seq (.join (.one .aM ⟨[0],[],[(6, .bool)],[],[]⟩) .no) .no) (.seq (.seq (.join (.one .aM ⟨[0],[],[(13, .bool)],[],[]⟩) .no) .no) (.seq (.seq (.join (.one .aM ⟨[0],[],[(20, .bool)],[],[]⟩) .no) .no) (.seq (.seq (.join (.one .aM ⟨[0],[],[(27, .bool)],[],[]⟩) .no) .no) (.seq (.join (.one .aM ⟨[0],[],[(34, .bool)],[],[]⟩) .no) .no))))) .no)) .no)) (.seq .no (.seq (.seq .no (.loop ⟨[0,55],[],[(56, .int .i64)],[],[]⟩ (.more .ret ⟨[],[],[(2, .int .i64)],[],[]⟩ (.one (.ext 6) ⟨[],[],[],[],[]⟩)) (.seq .no (.seq .no (.seq (.seq .no (.seq (.join (.one .aM ⟨[0,55,56],[],[(68, .bool)],[],[]⟩) .no) .no)) .no))))) .no))),[.val (.int .i32)],[(.int .i64)],[.tmp 2]⟩
noncomputable def yY:=uL.F
noncomputable def BO:Nat×Lf.Entry:=(81,⟨[.val (.int .i32)],[(.int .i64)],yY⟩)
theorem BF:Lf.aa Go.Proofs.Tryz.prog GG 81 BO.2:=Lf.Uw uL Go.Proofs.Tryz.f81 (by kernel_rfl) ⟨qD,Lf.lv.look .nil,Lf.lZ.look .nil,jv,jA,Lf.oL.look .nil,Lf.pI.look .nil⟩ (by kernel_rfl) (by kernel_rfl) (by kernel_rfl) (by kernel_rfl) (by kernel_rfl) (by kernel_rfl) (by kernel_rfl)
end Go.Fn
/- text.Width, run with a bound on its rounds. -/
namespace Go.Fn
open Go Go.Lf
noncomputable def uC (a0:Int):Option Int:=yY a0
noncomputable def xU:Nat×Entry:=(81,⟨[.val (.int .i32)],[.int .i64],fun z=>uC z⟩)
theorem Ew:aa Go.Proofs.Tryz.prog GG 81 xU.2:=BF
end Go.Fn
open Go Go.Lf
set_option maxRecDepth 10000
namespace Go.Fn
noncomputable def kW (a0:(List (UInt8))×((Int)×Rm)):Option (Int):=
 bif (decide ((a0.1:List (UInt8))=((32:UInt8)::([]:List (UInt8))))) then some (0:Int)
 else bif (decide ((a0.1:List (UInt8))=((9:UInt8)::([]:List (UInt8))))) then some (1:Int)
 else bif (decide ((a0.1:List (UInt8))=((10:UInt8)::([]:List (UInt8))))) then some (2:Int)
 else some (3:Int)
noncomputable def nu:Nat×Lf.Entry:=(106,⟨[.val (.st ax)],[(.int .i64)],fun z=>kW z⟩)
theorem sI:Lf.aa Go.Proofs.Tryz.prog GG 106 nu.2:=Kx Go.Proofs.Tryz.f106 11 [] [] [] [] .no [.tmp 2] .nil (fun z=>by kernel_rfl) (by kernel_rfl)
noncomputable def lC (a0:List ae):Option (Int):=
 (Lf.aG (σ:=Int) (κ:=(Unit)⊕(Int)) (fun z1=>
   bif (decide (z1<(((List.length a0):Nat):Int))) then ((Lf.idx a0 z1)).bind fun r2=>
   (((Go.Fn.kW r2)).bind fun r3=>
    bif (decide ((r3:Int)=(3:Int))) then bif (!(decide ((r2.1:List (UInt8))=([]:List (UInt8))))) then bif (decide ((r2.2.1:Int)≠(1:Int))) then some (decide ((r2.2.1:Int)≠(2:Int)))
    else some false
    else some true
    else some false).bind fun r4=>
   bif r4 then some (.inr (.inr (120:Int)))
   else some (.inl (Go.IntKind.wrap .i64 (z1+(1:Int))))
   else some (.inr (.inl ()))) (0:Int):Option ((Unit)⊕(Int))).bind fun r5=>
 Lf.bC r5 (fun a6=>
 some (0:Int)) (fun b7=>
 some b7)
noncomputable def vB:Nat×Lf.Entry:=(103,⟨[.val (.sl (.st ax))],[(.int .i64)],fun z=>lC z⟩)
theorem DT:Lf.aa Go.Proofs.Tryz.prog GG 103 vB.2:=Kx Go.Proofs.Tryz.f103 30 [nu] [] [] [] (.seq .no (.seq (.seq .no (.loop ⟨[5,6],[],[(7,(.int .i64))],[],[]⟩ (.more (.ext 0) ⟨[],[],[],[],[]⟩ (.one .ret ⟨[],[],[(2,(.int .i64))],[],[]⟩)) (.seq .no (.seq .no (.seq (.seq .no (.seq (.join (.one .aM ⟨[5,6,7],[],[(28, .bool)],[],[]⟩) .no) .no)) .no))))) .no)) [.tmp 2] (.bq sI .nil) (fun z=>by kernel_rfl) (by kernel_rfl)
noncomputable def aT (a0:(Int)×ik):Option ((Int)×ik):=
 ((Lf.app (24:Nat) a0.2.1 (a0.2.2.1::([]:List (List ae))))).bind fun r1=>
 some (a0.1,(r1,(([]:List ae),((0:Int),(([]:List ae),a0.2.2.2.2.2)))))
noncomputable def ed:Nat×Lf.Entry:=(108,⟨[.obj 189 (.st fG) (.st fG) []],[],fun z=>aT z⟩)
theorem gu:Lf.aa Go.Proofs.Tryz.prog GG 108 ed.2:=Kx Go.Proofs.Tryz.f108 24 [] [6] [] [(6,fK)] (.seq (.jg 10) .no) [] .nil (fun z=>by kernel_rfl) (by kernel_rfl)
noncomputable def bA (a0:(Int)×ik) (a1:(List (UInt8))×((Int)×Rm)):Option ((Int)×ik):=
 ((Lf.app (48:Nat) a0.2.2.1 (a1::([]:List ae)))).bind fun r1=>
 some (Lf.u2 a0 (r1,((Go.IntKind.wrap .i64 (a0.2.2.2.1+a1.2.1)),a0.2.2.2.2)))
noncomputable def jr:Nat×Lf.Entry:=(126,⟨[.obj 189 (.st fG) (.st fG) [], .val (.st ax)],[],fun z=>bA z.1 z.2⟩)
theorem nM:Lf.aa Go.Proofs.Tryz.prog GG 126 jr.2:=Kx Go.Proofs.Tryz.f126 23 [] [8] [] [(8,(.rw 52 (.st ax)))] (.seq .no (.seq (.jg 7) (.draw 9))) [] .nil (fun z=>by kernel_rfl) (by kernel_rfl)
noncomputable def iB (a0:(Int)×((List (List ae))×OJ)) (a1:(List (UInt8))×((Int)×Rm)):Option ((Int)×((List (List ae))×OJ)):=
 ((Lf.app (48:Nat) a0.2.2.1 (a1::([]:List ae)))).bind fun r1=>
 some (Lf.u2 a0 (r1,((Go.IntKind.wrap .i64 (a0.2.2.2.1+a1.2.1)),a0.2.2.2.2)))
noncomputable def mh:Nat×Lf.Entry:=(126,⟨[.obj 189 (.st KY) (.st KY) [], .val (.st ax)],[],fun z=>iB z.1 z.2⟩)
theorem uX:Lf.aa Go.Proofs.Tryz.prog GG 126 mh.2:=Kx Go.Proofs.Tryz.f126 23 [] [8] [] [(8,(.rw 52 (.st ax)))] (.seq .no (.seq (.jg 7) (.draw 9))) [] .nil (fun z=>by kernel_rfl) (by kernel_rfl)
noncomputable def cu (a0:(Int)×ik) (a1:(List (UInt8))×((Int)×Rm)):Option ((Int)×ik):=
 ((Lf.nz (8:Int) (Go.IntKind.wrap .i64 (Int.tdiv a0.2.2.2.1 (8:Int))))).bind fun r1=>
 bif (decide (a0.1≤(Go.IntKind.wrap .i64 ((Go.IntKind.wrap .i64 (r1+(1:Int)))*(8:Int))))) then ((Go.Fn.aT (Lf.u4 a0 (([]:List ae),a0.2.2.2.2.2)))).bind fun r2=>
 some r2
 else (Lf.aG (σ:=ae×((Int)×ik)) (κ:=(Int)×ik) (fun z3=>
   bif (decide (z3.2.2.2.2.1<(Go.IntKind.wrap .i64 ((Go.IntKind.wrap .i64 (r1+(1:Int)))*(8:Int))))) then ((Go.Fn.bA z3.2 z3.1)).bind fun r4=>
   some (.inl (z3.1,r4))
   else some (.inr z3.2)) ((((32:UInt8)::([]:List (UInt8))),((1:Int),a1.2.2)),(Lf.u4 a0 (([]:List ae),a0.2.2.2.2.2))):Option ((Int)×ik)).bind fun r5=>
 some r5
noncomputable def lD:Nat×Lf.Entry:=(127,⟨[.obj 189 (.st fG) (.st fG) [], .val (.st ax)],[],fun z=>cu z.1 z.2⟩)
theorem tN:Lf.aa Go.Proofs.Tryz.prog GG 127 lD.2:=Kx Go.Proofs.Tryz.f127 34 [ed,jr] [] [] [] (.seq .no (.seq .no (.seq .no (.seq .no (.seq .no (.loop ⟨[4],[(3, .ref 3 [] 0),(0, .ref 0 [] 0)],[],[(3,52,(.st ax)),(0,189,(.st fG))],[]⟩ (.one (.ext 0) ⟨[],[(0, .ref 0 [] 0)],[],[(0,189,(.st fG))],[]⟩) .no)))))) [] (.bq gu (.bq nM .nil)) (fun z=>by kernel_rfl) (by kernel_rfl)
noncomputable def dS (a0:(Int)×ik) (a1:(List (UInt8))×((Int)×Rm)):Option ((Int)×ik):=
 ((Go.Fn.kW a1)).bind fun r1=>
 bif (decide ((r1:Int)=(1:Int))) then ((Go.Fn.cu a0 a1)).bind fun r2=>
 some r2
 else ((Go.Fn.aT a0)).bind fun r3=>
 some r3
noncomputable def mE:Nat×Lf.Entry:=(107,⟨[.obj 189 (.st fG) (.st fG) [], .val (.st ax)],[],fun z=>dS z.1 z.2⟩)
theorem uZ:Lf.aa Go.Proofs.Tryz.prog GG 107 mE.2:=Kx Go.Proofs.Tryz.f107 12 [nu,ed,lD] [] [] [] .no [] (.bq sI (.bq gu (.bq tN .nil))) (fun z=>by kernel_rfl) (by kernel_rfl)
noncomputable def uD (a0:List ae):Option (Int):=
 (Lf.aG (σ:=(Int)×(Int)) (κ:=Int) (fun z1=>
   bif (decide (z1.1<(((List.length a0):Nat):Int))) then ((Lf.idx a0 z1.1)).bind fun r2=>
   some (.inl ((Go.IntKind.wrap .i64 (z1.1+(1:Int))),(Go.IntKind.wrap .i64 (z1.2+r2.2.1))))
   else some (.inr z1.2)) ((0:Int),(0:Int)):Option (Int)).bind fun r3=>
 some r3
noncomputable def xO:Nat×Lf.Entry:=(113,⟨[.val (.sl (.st ax))],[(.int .i64)],fun z=>uD z⟩)
theorem EA:Lf.aa Go.Proofs.Tryz.prog GG 113 xO.2:=Kx Go.Proofs.Tryz.f113 18 [] [] [] [] (.seq .no (.seq .no (.seq (.seq .no (.loop ⟨[6,7],[],[(8,(.int .i64)),(3,(.int .i64))],[],[]⟩ (.one (.ext 0) ⟨[],[],[(3,(.int .i64))],[],[]⟩) .no)) .no))) [.tmp 2] .nil (fun z=>by kernel_rfl) (by kernel_rfl)
noncomputable def mq:Lf.Ctx:=⟨79,NP,[ed,xO,jr],[],[],[],[],uN,[(39,mh)],some 4611686018427387904,uK,[]⟩
noncomputable def lT:Go.Code:=(Go.Proofs.Tryz.f105.body).getD .skip
def mG:Lf.qZ:=(.seq (.seq (.draw 18) (.cnd (.seq (.seq .no (.loop ⟨[32],[(0, .ref 0 [] 0)],[(33,(.int .i64)),(31,(.mr 52 (.st ax)))],[(0,189,(.st KY))],[]⟩ (.one (.ext 0) ⟨[],[(0, .ref 0 [] 0)],[],[(0,189,(.st KY))],[]⟩) .no)) .no) .no)) (.seq .no (.seq (.join (.one .aM ⟨[1],[(0, .ref 0 [] 0)],[],[(0,189,(.st fG))],[]⟩) .no) (.seq .no (.loop ⟨[55,56],[(0, .ref 0 [] 0)],[(57,(.int .i64))],[(0,189,(.st fG))],[]⟩ (.one (.ext 2) ⟨[],[(0, .ref 0 [] 0)],[],[(0,189,(.st fG))],[]⟩) (.seq .no (.seq .no (.seq (.seq .no (.seq (.join (.one .aM ⟨[55,56,57],[(0, .ref 0 [] 0),(7, .ref 7 [] 0)],[],[(0,189,(.st fG)),(7,52,(.st ax))],[]⟩) (.seq (.draw 12) .no)) .no)) .no))))))))
noncomputable def bZ (a0:(Int)×ik) (a1:List ae):Option ((Int)×ik):=
 ((Go.Fn.uD a1)).bind fun r1=>
 bif (decide ((Go.IntKind.wrap .i64 ((Go.IntKind.wrap .i64 (a0.2.2.2.1+(((List.length a0.2.2.2.2.1):Nat):Int)))+r1))≤a0.1)) then ((Lf.app (48:Nat) a0.2.2.2.2.1 a1)).bind fun r2=>
 (Lf.aG (σ:=(Int)×((List ae)×((Int)×((List (List ae))×OJ)))) (κ:=(Int)×((List (List ae))×OJ)) (fun z3=>
   bif (decide (z3.1<(((List.length r2):Nat):Int))) then ((Lf.lG (List.length z3.2.1) z3.1)).bind fun r4=>
   ((Lf.nth z3.2.1 r4)).bind fun r5=>
   ((Go.Fn.iB z3.2.2 r5)).bind fun r6=>
   some (.inl ((Go.IntKind.wrap .i64 (z3.1+(1:Int))),(z3.2.1,r6)))
   else some (.inr z3.2.2)) ((0:Int),(r2,(Lf.u4 a0 ((),a0.2.2.2.2.2)))):Option ((Int)×((List (List ae))×OJ))).bind fun r7=>
 some (Lf.u4 r7 (([]:List ae),r7.2.2.2.2.2))
 else (bif (decide ((0:Int)<(((List.length a0.2.2.1):Nat):Int))) then ((Go.Fn.aT (Lf.u4 a0 (([]:List ae),a0.2.2.2.2.2)))).bind fun r8=>
  some r8
  else some (Lf.u4 a0 (([]:List ae),a0.2.2.2.2.2))).bind fun r9=>
 (Lf.aG (σ:=(Int)×((Int)×ik)) (κ:=(Int)×ik) (fun z10=>
   bif (decide (z10.1<(((List.length a1):Nat):Int))) then ((Lf.idx a1 z10.1)).bind fun r11=>
   (bif (decide (z10.2.1<(Go.IntKind.wrap .i64 (z10.2.2.2.2.1+r11.2.1)))) then ((Go.Fn.aT z10.2)).bind fun r12=>
    some (r12,r11)
    else some (z10.2,r11)).bind fun r13=>
   ((Go.Fn.bA r13.1 r13.2)).bind fun r14=>
   some (.inl ((Go.IntKind.wrap .i64 (z10.1+(1:Int))),r14))
   else some (.inr z10.2)) ((0:Int),r9):Option ((Int)×ik)).bind fun r15=>
 some r15
theorem u_ (a0:(Int)×ik) (a1:List ae):Lf.QH mq lT mG [.obj 189 (.st fG) (.st fG) [], .val (.sl (.st ax))] [] [] (a0,a1)=bZ a0 a1:=by kernel_rfl
noncomputable def mH:Nat×Lf.Entry:=(105,⟨[.obj 189 (.st fG) (.st fG) [], .val (.sl (.st ax))],[],fun z=>bZ z.1 z.2⟩)
theorem uY:Lf.aa Go.Proofs.Tryz.prog GG 105 mH.2:=
 Lf.xW (c:=mq) (code:=lT) (an:=mG) (slots:=[]) (fn:=Go.Proofs.Tryz.f105) (by kernel_rfl) ⟨qD,Lf.lv.look (.bq gu (.bq EA (.bq nM .nil))),Lf.lZ.look .nil,jv,jA,Lf.oL.look .nil,Lf.pI.look (.cons uX .nil)⟩ (by kernel_rfl) (by kernel_rfl) (by kernel_rfl) (by kernel_rfl) (by kernel_rfl) (Nat.le_of_ble_eq_true rfl) (by simp [Lf.Ty.top]) (by simp [Lf.Ty.top]) fun z r h=>(u_ z.1 z.2).trans h
noncomputable def eZ (a0:List ae) (a1:(Int)×ik):Option ((List ae)×((Int)×ik)):=
 bif (decide ((0:Int)<(((List.length a0):Nat):Int))) then ((Go.Fn.bZ a1 a0)).bind fun r1=>
 some (([]:List ae),r1)
 else some (a0,a1)
noncomputable def uT:Nat×Lf.Entry:=(104,⟨[.obj 50 (.rw 52 (.st ax)) (.rw 52 (.st ax)) [], .obj 189 (.st fG) (.st fG) [] .sJ],[],fun z=>eZ z.1 z.2⟩)
theorem BC:Lf.aa Go.Proofs.Tryz.prog GG 104 uT.2:=Kx Go.Proofs.Tryz.f104 8 [mH] [] [] [] .no [] (.bq uY .nil) (fun z=>by kernel_rfl) (by kernel_rfl)
noncomputable def iw (a0:List ae) (a1:Int):Option ((List (List ae))×(Int)):=
 (bif (!(decide (a1<(1:Int)))) then some (decide ((200:Int)<a1))
  else some true).bind fun r1=>
 bif r1 then some (([]:List (List ae)),(1:Int))
 else ((Go.Fn.lC a0)).bind fun r2=>
 bif (decide ((r2:Int)≠(0:Int))) then some (([]:List (List ae)),r2)
 else (Lf.aG (σ:=(Int)×((List ae)×((Int)×ik))) (κ:=((Int)×ik)×(List ae)) (fun z3=>
   bif (decide (z3.1<(((List.length a0):Nat):Int))) then (((Lf.idx a0 z3.1)).bind fun r4=>
    ((Go.Fn.kW r4)).bind fun r5=>
    (bif (decide ((r5:Int)=(3:Int))) then (bif (decide (a1<r4.2.1)) then some (z3.2.1,(z3.2.2,(((63:UInt8)::([]:List (UInt8))),((1:Int),r4.2.2))))
      else some (z3.2.1,(z3.2.2,r4))).bind fun r6=>
     ((Lf.app (48:Nat) r6.1 (r6.2.2::([]:List ae)))).bind fun r7=>
     some (.inr (.inr (r7,r6.2.1)))
     else bif (decide ((r5:Int)=(0:Int))) then (((Go.Fn.eZ z3.2.1 z3.2.2)).bind fun r8=>
      (bif (decide ((0:Int)<(((List.length r8.2.2.2.1):Nat):Int))) then some ((decide (((((List.length r8.2.2.2.2.2.1):Nat):Int):Int)=(0:Int))),(r8.1,(r8.2,r4)))
       else some (false,(r8.1,(r8.2,r4)))).bind fun r9=>
      bif r9.1 then some (r9.2.1,(Lf.u4 r9.2.2.1 (((r9.2.2.2.1,((1:Int),r9.2.2.2.2.2))::([]:List ae)),r9.2.2.1.2.2.2.2.2)))
      else some (r9.2.1,r9.2.2.1)).bind fun r10=>
     some (.inr (.inl r10))
     else bif (decide ((r5:Int)=(1:Int))) then some (.inl (z3.2.1,(z3.2.2,r4)))
     else bif (decide ((r5:Int)=(2:Int))) then some (.inl (z3.2.1,(z3.2.2,r4)))
     else some (.inr (.inl z3.2)):Option (((List ae)×(((Int)×ik)×ae))⊕(((List ae)×((Int)×ik))⊕((List ae)×((Int)×ik))))).bind fun r11=>
    Lf.bC r11 (fun a12=>
    ((Go.Fn.eZ a12.1 a12.2.1)).bind fun r13=>
    ((Go.Fn.dS r13.2 a12.2.2)).bind fun r14=>
    some (r13.1,r14)) (fun b15=>
    Lf.bC b15 (fun a16=>
    some a16) (fun b17=>
    some b17)):Option ((List ae)×((Int)×ik))).bind fun r18=>
   some (.inl ((Go.IntKind.wrap .i64 (z3.1+(1:Int))),r18))
   else some (.inr (z3.2.2,z3.2.1))) ((0:Int),(([]:List ae),(a1,(([]:List (List ae)),(([]:List ae),((0:Int),(([]:List ae),()))))))):Option (((Int)×ik)×(List ae))).bind fun r19=>
 ((Go.Fn.eZ r19.2 r19.1)).bind fun r20=>
 (bif (decide ((0:Int)<(((List.length r20.2.2.2.1):Nat):Int))) then ((Go.Fn.aT r20.2)).bind fun r21=>
  some r21
  else some r20.2).bind fun r22=>
 some (r22.2.1,(0:Int))
noncomputable def xK:Nat×Lf.Entry:=(83,⟨[.val (.sl (.st ax)), .val (.int .i64)],[fK,(.int .i64)],fun z=>iw z.1 z.2⟩)
theorem Ep:Lf.aa Go.Proofs.Tryz.prog GG 83 xK.2:=Kx Go.Proofs.Tryz.f83 95 [vB,uT,nu,mE,ed] [4,49,94] [] [(4,fK),(7, .bn),(8,(.rw 52 (.st ax))),(24,(.st fG)),(49,(.rw 52 (.st ax))),(72,(.mr 52 (.st ax))),(94,fK)] (.seq .no (.seq (.seq (.join (.one .aM ⟨[1,0],[],[(17, .bool)],[],[]⟩) .no) .no) (.seq .no (.seq .no (.seq .no (.seq .no (.seq .no (.seq (.seq .no (.loop ⟨[1,27,28],[(8, .ref 8 [] 0),(7, .sJ 25 [] 0),(9, .zR 104 0 [(false,8,[],0),(true,25,[],0)])],[(29,(.int .i64))],[(8,50,(.rw 52 (.st ax))),(25,189,(.st fG))],[]⟩ (.one (.ext 0) ⟨[],[(7, .sJ 25 [] 0),(9, .zR 104 0 [(false,8,[],0),(true,25,[],0)])],[],[(25,189,(.st fG)),(8,50,(.rw 52 (.st ax)))],[]⟩) (.seq .no (.seq .no (.seq (.join (.one .aM ⟨[1,27,28,29],[(8, .ref 8 [] 0),(7, .sJ 25 [] 0),(9, .zR 104 0 [(false,8,[],0),(true,25,[],0)])],[],[(8,50,(.rw 52 (.st ax))),(25,189,(.st fG))],[]⟩) (.seq .no (.seq .no (.seq (.join (.more .aM ⟨[1,27,28,29],[(8, .ref 8 [] 0),(7, .sJ 25 [] 0),(9, .zR 104 0 [(false,8,[],0),(true,25,[],0)]),(11, .ref 11 [] 0)],[],[(8,50,(.rw 52 (.st ax))),(25,189,(.st fG)),(11,52,(.st ax))],[]⟩ (.more (.ext 2) ⟨[1,27,28,29],[(8, .ref 8 [] 0),(7, .sJ 25 [] 0),(9, .zR 104 0 [(false,8,[],0),(true,25,[],0)])],[],[(8,50,(.rw 52 (.st ax))),(25,189,(.st fG))],[]⟩ (.one (.ext 1) ⟨[1,27,28,29],[(8, .ref 8 [] 0),(7, .sJ 25 [] 0),(9, .zR 104 0 [(false,8,[],0),(true,25,[],0)])],[],[(8,50,(.rw 52 (.st ax))),(25,189,(.st fG))],[]⟩))) (.seq (.seq .no (.seq (.seq (.join (.one .aM ⟨[1,27,28,29],[(8, .ref 8 [] 0),(7, .sJ 25 [] 0),(9, .zR 104 0 [(false,8,[],0),(true,25,[],0)]),(11, .ref 11 [] 0)],[],[(8,50,(.rw 52 (.st ax))),(25,189,(.st fG)),(11,52,(.st ax))],[]⟩) .no) .no) .no)) (.seq (.join (.one .aM ⟨[1,27,28,29],[(8, .ref 8 [] 0),(7, .sJ 25 [] 0),(9, .zR 104 0 [(false,8,[],0),(true,25,[],0)])],[],[(8,50,(.rw 52 (.st ax))),(25,189,(.st fG))],[]⟩) (.seq .no (.seq (.join (.one .aM ⟨[1,27,28,29],[(8, .ref 8 [] 0),(7, .sJ 25 [] 0),(9, .zR 104 0 [(false,8,[],0),(true,25,[],0)]),(11, .ref 11 [] 0)],[(68, .bool)],[(8,50,(.rw 52 (.st ax))),(25,189,(.st fG)),(11,52,(.st ax))],[]⟩) .no) .no))) .no))) .no)))) .no))))) (.seq .no (.seq (.join (.one .aM ⟨[],[(7, .sJ 25 [] 0)],[],[(25,189,(.st fG))],[]⟩) .no) .no)))))))))) [.tmp 4, .tmp 5] (.bq DT (.bq BC (.bq sI (.bq uZ (.bq gu .nil))))) (fun z=>by kernel_rfl) (by kernel_rfl)
noncomputable def qK (a0:List (UInt8)):Option (List NL):=
 (Lf.aG (σ:=(Int)×(List NL)) (κ:=List NL) (fun z1=>
   bif (decide (z1.1<(((List.length a0):Nat):Int))) then ((Lf.sub a0 z1.1 (((List.length a0):Nat):Int))).bind fun r2=>
   ((Go.Fn.kX r2)).bind fun r3=>
   ((Go.Fn.uC r3.1)).bind fun r4=>
   ((bif (decide ((r4:Int)=(0:Int))) then some ((decide ((0:Int)<(((List.length z1.2):Nat):Int))),z1.2)
     else some (false,z1.2)).bind fun r5=>
    bif r5.1 then ((Lf.lG (List.length r5.2) (Go.IntKind.wrap .i64 ((((List.length r5.2):Nat):Int) - (1:Int))))).bind fun r6=>
    ((Lf.nth r5.2 r6)).bind fun r7=>
    ((Lf.sub a0 z1.1 (Go.IntKind.wrap .i64 (z1.1+r3.2)))).bind fun r8=>
    ((Lf.cat r7.1 r8)).bind fun r9=>
    ((Lf.lG (List.length r5.2) (Go.IntKind.wrap .i64 ((((List.length r5.2):Nat):Int) - (1:Int))))).bind fun r10=>
    ((Lf.nth r5.2 r10)).bind fun r11=>
    some (List.set r5.2 r10 (r9,r11.2))
    else ((Lf.sub a0 z1.1 (Go.IntKind.wrap .i64 (z1.1+r3.2)))).bind fun r12=>
    ((Lf.app (32:Nat) r5.2 ((r12,(z1.1,((Max.max r4 (1:Int)),())))::([]:List NL)))).bind fun r13=>
    some r13).bind fun r14=>
   some (.inl ((Go.IntKind.wrap .i64 (z1.1+r3.2)),r14))
   else some (.inr z1.2)) ((0:Int),([]:List NL)):Option (List NL)).bind fun r15=>
 some r15
noncomputable def yc:Nat×Lf.Entry:=(42,⟨[.val .str],[(.sl (.st (.pr .str bM)))],fun z=>qK z⟩)
theorem Em:Lf.aa Go.Proofs.Tryz.prog GG 42 yc.2:=Kx Go.Proofs.Tryz.f42 61 [rE,xU] [] [] [(3,(.mr 131 (.st (.pr .str bM))))] (.seq .no (.seq .no (.seq (.seq .no (.loop ⟨[0],[],[(4,(.int .i64)),(3,(.mr 131 (.st (.pr .str bM))))],[],[]⟩ (.one (.ext 0) ⟨[],[],[(3,(.mr 131 (.st (.pr .str bM))))],[],[]⟩) (.seq .no (.seq .no (.seq .no (.seq (.join (.one .aM ⟨[0,6,4],[],[(3,(.mr 131 (.st (.pr .str bM))))],[],[]⟩) (.seq (.join (.one .aM ⟨[0,6,4,7],[],[(27, .bool),(3,(.mr 131 (.st (.pr .str bM))))],[],[]⟩) .no) (.cnd (.draw 16) .no))) .no)))))) .no))) [.tmp 2] (.bq vH (.bq Ew .nil)) (fun z=>by kernel_rfl) (by kernel_rfl)
noncomputable def pX (a0:Int):Option (Bool):=
 (bif (!(decide (a0<(32:Int)))) then bif (decide ((127:Int)≤a0)) then some (decide (a0≤(159:Int)))
  else some false
  else some true).bind fun r1=>
 some r1
noncomputable def uM:Nat×Lf.Entry:=(124,⟨[.val (.int .i32)],[.bool],fun z=>pX z⟩)
theorem BH:Lf.aa Go.Proofs.Tryz.prog GG 124 uM.2:=Kx Go.Proofs.Tryz.f124 13 [] [] [] [] (.seq .no (.seq (.join (.one .aM ⟨[],[],[(2, .bool)],[],[]⟩) .no) .no)) [.tmp 2] .nil (fun z=>by kernel_rfl) (by kernel_rfl)
noncomputable def zF (a0:List (UInt8)) (a1:Int):Option (Bool):=
 ((Lf.sub a0 a1 (((List.length a0):Nat):Int))).bind fun r1=>
 ((Go.Fn.kX r1)).bind fun r2=>
 (bif (decide ((r2.1:Int)=(65533:Int))) then some (decide ((r2.2:Int)=(1:Int)))
  else some false).bind fun r3=>
 some r3
noncomputable def Ba:Nat×Lf.Entry:=(125,⟨[.val .str, .val (.int .i64)],[.bool],fun z=>zF z.1 z.2⟩)
theorem Jr:Lf.aa Go.Proofs.Tryz.prog GG 125 Ba.2:=Kx Go.Proofs.Tryz.f125 20 [rE] [] [] [] (.seq .no (.seq .no (.seq (.join (.one .aM ⟨[],[],[(4, .bool)],[],[]⟩) .no) .no))) [.tmp 4] (.bq vH .nil) (fun z=>by kernel_rfl) (by kernel_rfl)
noncomputable def mX (a0:List (UInt8)):Option ((Int)×(Bool)):=
 (Lf.aG (σ:=(List (UInt8))×(Int)) (κ:=((Int)×(Bool))⊕(Unit)) (fun z1=>
   bif (decide (z1.2<(((List.length z1.1):Nat):Int))) then (((Go.Fn.pX (Lf.Ab z1.1 z1.2))).bind fun r2=>
    bif (!r2) then bif (decide (((Lf.Ab z1.1 z1.2):Int)=(65533:Int))) then ((Go.Fn.zF a0 z1.2)).bind fun r3=>
    some (r3,(z1.1,(z1.2+(Lf.Bb z1.1 z1.2))))
    else some (false,(z1.1,(z1.2+(Lf.Bb z1.1 z1.2))))
    else some (true,(z1.1,(z1.2+(Lf.Bb z1.1 z1.2))))).bind fun r4=>
   bif r4.1 then some (.inr (.inl (z1.2,false)))
   else some (.inl r4.2)
   else some (.inr (.inr ()))) (a0,(0:Int)):Option (((Int)×(Bool))⊕(Unit))).bind fun r5=>
 Lf.bC r5 (fun a6=>
 some a6) (fun b7=>
 some ((0:Int),true))
noncomputable def yf:Nat×Lf.Entry:=(99,⟨[.val .str],[(.int .i64), .bool],fun z=>mX z⟩)
theorem Ey:Lf.aa Go.Proofs.Tryz.prog GG 99 yf.2:=Kx Go.Proofs.Tryz.f99 24 [uM,Ba] [] [] [] (.seq .no (.seq (.seq .no (.loop ⟨[0],[],[(7, .it)],[],[]⟩ (.more .ret ⟨[],[],[(2,(.int .i64)),(3, .bool)],[],[]⟩ (.one (.ext 0) ⟨[],[],[],[],[]⟩)) (.seq .no (.seq .no (.seq .no (.seq (.join (.one .aM ⟨[4,0],[],[(22, .bool),(7, .it)],[],[]⟩) .no) .no)))))) .no)) [.tmp 2, .tmp 3] (.bq BH (.bq Jr .nil)) (fun z=>by kernel_rfl) (by kernel_rfl)
noncomputable def qN (a0:List (UInt8)):Option (Bool):=
 ((Go.Fn.mX a0)).bind fun r1=>
 (bif (decide ((a0:List (UInt8))≠([]:List (UInt8)))) then some r1.2
  else some false).bind fun r2=>
 some r2
noncomputable def Bh:Nat×Lf.Entry:=(71,⟨[.val .str],[.bool],fun z=>qN z⟩)
theorem Hq:Lf.aa Go.Proofs.Tryz.prog GG 71 Bh.2:=Kx Go.Proofs.Tryz.f71 15 [yf] [] [] [] (.seq .no (.seq .no (.seq (.join (.one .aM ⟨[],[],[(2, .bool)],[],[]⟩) .no) .no))) [.tmp 2] (.bq Ey .nil) (fun z=>by kernel_rfl) (by kernel_rfl)
end Go.Fn
open Go Go.Lf
set_option maxRecDepth 10000
namespace Go.Fn
noncomputable def kJ (a0:(((Int)×eB)×mI)×eB) (a1:(Int)×((Int)×BL)):Option ((Bool)×dZ):=
 (bif (decide ((a1.1:Int)=(1:Int))) then ((Go.Fn.qN a1.2.2.1)).bind fun r1=>
  bif r1 then some (.inl ((decide (((((List.length a1.2.2.2.1):Nat):Int):Int)=(0:Int))),((decide ((a0.2.2.2.2.1:Int)≠(1:Int))),((decide ((a1.2.1:Int)=(0:Int))),a0))))
  else some (.inl ((decide (((((List.length a1.2.2.2.1):Nat):Int):Int)=(0:Int))),(false,((decide ((a1.2.1:Int)=(0:Int))),a0))))
  else bif (decide ((a1.1:Int)=(2:Int))) then bif (decide ((0:Int)≤a1.2.1)) then some (.inl ((decide (((((List.length a1.2.2.2.1):Nat):Int):Int)=(0:Int))),((decide ((a1.2.2.1:List (UInt8))=([]:List (UInt8)))),((decide (a1.2.1<a0.2.2.1)),a0))))
  else some (.inl ((decide (((((List.length a1.2.2.2.1):Nat):Int):Int)=(0:Int))),((decide ((a1.2.2.1:List (UInt8))=([]:List (UInt8)))),(false,a0))))
  else (bif (decide ((a1.1:Int)=(3:Int))) then some ((decide ((a1.1:Int)=(3:Int))),(a0,a1))
   else some ((decide ((a1.1:Int)=(4:Int))),(a0,a1))).bind fun r2=>
  bif r2.1 then bif (decide ((0:Int)≤r2.2.2.2.1)) then some (.inl ((decide (((((List.length a1.2.2.2.1):Nat):Int):Int)=(0:Int))),((decide ((a1.2.2.1:List (UInt8))=([]:List (UInt8)))),((decide (r2.2.2.2.1<r2.2.1.2.2.2.1)),r2.2.1))))
  else some (.inl ((decide (((((List.length a1.2.2.2.1):Nat):Int):Int)=(0:Int))),((decide ((a1.2.2.1:List (UInt8))=([]:List (UInt8)))),(false,r2.2.1))))
  else bif (decide ((a1.1:Int)=(8:Int))) then bif (decide ((-(1:Int))≤r2.2.2.2.1)) then some (.inl ((decide (((((List.length a1.2.2.2.1):Nat):Int):Int)=(0:Int))),((decide ((a1.2.2.1:List (UInt8))=([]:List (UInt8)))),((decide (r2.2.2.2.1<r2.2.1.2.2.1)),r2.2.1))))
  else some (.inl ((decide (((((List.length a1.2.2.2.1):Nat):Int):Int)=(0:Int))),((decide ((a1.2.2.1:List (UInt8))=([]:List (UInt8)))),(false,r2.2.1))))
  else bif (decide ((a1.1:Int)=(10:Int))) then bif (!(decide ((r2.2.2.2.1:Int)=(0:Int)))) then some (.inl ((decide (((((List.length a1.2.2.2.1):Nat):Int):Int)=(0:Int))),((decide ((a1.2.2.1:List (UInt8))=([]:List (UInt8)))),((decide ((r2.2.2.2.1:Int)=(1:Int))),r2.2.1))))
  else some (.inl ((decide (((((List.length a1.2.2.2.1):Nat):Int):Int)=(0:Int))),((decide ((a1.2.2.1:List (UInt8))=([]:List (UInt8)))),(true,r2.2.1))))
  else bif (decide ((a1.1:Int)=(12:Int))) then (bif (decide ((1:Int)≤(((List.length r2.2.2.2.2.2.1):Nat):Int))) then some ((decide ((((List.length r2.2.2.2.2.2.1):Nat):Int)≤(8:Int))),r2.2)
   else some (false,r2.2)).bind fun r3=>
  (Lf.aG (σ:=(Int)×((Bool)×dZ)) (κ:=(Bool)×dZ) (fun z4=>
    bif (decide (z4.1<(((List.length r3.2.2.2.2.2.1):Nat):Int))) then (((Lf.idx r3.2.2.2.2.2.1 z4.1)).bind fun r5=>
     bif z4.2.1 then bif (decide ((0:Int)≤r5)) then some ((decide (r5≤(100:Int))),z4.2.2)
     else some (false,z4.2.2)
     else some (false,z4.2.2)).bind fun r6=>
    some (.inl ((Go.IntKind.wrap .i64 (z4.1+(1:Int))),r6))
    else some (.inr z4.2)) ((0:Int),(r3.1,r3.2.1)):Option ((Bool)×dZ)).bind fun r7=>
  some (.inl (r7.1,((decide ((a1.2.2.1:List (UInt8))=([]:List (UInt8)))),((decide ((a1.2.1:Int)=(0:Int))),r7.2))))
  else (bif (decide ((a1.1:Int)=(5:Int))) then some ((decide ((a1.1:Int)=(5:Int))),r2.2.1)
   else bif (decide ((a1.1:Int)=(6:Int))) then some ((decide ((a1.1:Int)=(6:Int))),r2.2.1)
   else bif (decide ((a1.1:Int)=(7:Int))) then some ((decide ((a1.1:Int)=(7:Int))),r2.2.1)
   else bif (decide ((a1.1:Int)=(9:Int))) then some ((decide ((a1.1:Int)=(9:Int))),r2.2.1)
   else bif (decide ((a1.1:Int)=(11:Int))) then some ((decide ((a1.1:Int)=(11:Int))),r2.2.1)
   else bif (decide ((a1.1:Int)=(13:Int))) then some ((decide ((a1.1:Int)=(13:Int))),r2.2.1)
   else some ((decide ((a1.1:Int)=(14:Int))),r2.2.1)).bind fun r8=>
  bif r8.1 then some (.inl ((decide (((((List.length a1.2.2.2.1):Nat):Int):Int)=(0:Int))),((decide ((a1.2.2.1:List (UInt8))=([]:List (UInt8)))),((decide ((a1.2.1:Int)=(0:Int))),r8.2))))
  else some (.inr (false,r8.2)):Option (((Bool)×((Bool)×((Bool)×dZ)))⊕((Bool)×dZ))).bind fun r9=>
 Lf.bC r9 (fun a10=>
 (bif a10.2.2.1 then bif a10.2.1 then some (a10.1,a10.2.2.2)
  else some (false,a10.2.2.2)
  else some (false,a10.2.2.2)).bind fun r11=>
 some r11) (fun b12=>
 some b12)
noncomputable def qU:Nat×Lf.Entry:=(35,⟨[.obj 123 aC aC [], .val (.st dY)],[.bool],fun z=>kJ z.1 z.2⟩)
theorem yF:Lf.aa Go.Proofs.Tryz.prog GG 35 qU.2:=Kx Go.Proofs.Tryz.f35 131 [Bh] [] [] [] (.seq .no (.seq (.draw 13) (.seq (.join (.more .aM ⟨[],[(0, .ref 0 [] 0)],[(7, .bool),(6, .bool),(5, .bool)],[(0,123,aC)],[]⟩ (.one .ret ⟨[],[(0, .ref 0 [] 0)],[(4, .bool)],[(0,123,aC)],[]⟩)) (.seq .no (.seq .no (.cnd .no (.seq .no (.cnd (.draw 13) (.seq (.join (.one .aM ⟨[7,6,5,21],[(0, .ref 0 [] 0),(3, .ref 3 [] 0)],[(48, .bool)],[(0,123,aC),(3,44,(.st dY))],[]⟩) .no) (.cnd (.draw 13) (.seq .no (.cnd (.draw 13) (.seq .no (.cnd .no (.seq .no (.cnd (.seq (.join (.one .aM ⟨[6,5],[(0, .ref 0 [] 0),(3, .ref 3 [] 0)],[(7, .bool)],[(0,123,aC),(3,44,(.st dY))],[]⟩) .no) (.seq .no (.loop ⟨[100,6,5,101],[(0, .ref 0 [] 0)],[(102,(.int .i64)),(7, .bool)],[(0,123,aC)],[]⟩ (.one (.ext 1) ⟨[6,5],[(0, .ref 0 [] 0)],[(7, .bool)],[(0,123,aC)],[]⟩) (.seq .no (.seq .no (.seq (.join (.one .aM ⟨[100,6,5,101,102],[(0, .ref 0 [] 0)],[(7, .bool)],[(0,123,aC)],[]⟩) .no) .no)))))) (.seq (.join (.one .aM ⟨[7,6,5],[(0, .ref 0 [] 0)],[(116, .bool)],[(0,123,aC)],[]⟩) .no) .no))))))))))))))) (.seq (.join (.one .aM ⟨[],[(0, .ref 0 [] 0)],[(4, .bool)],[(0,123,aC)],[]⟩) .no) .no)))) [.tmp 4] (.bq Hq .nil) (fun z=>by kernel_rfl) (by kernel_rfl)
noncomputable def kL (a0:(((Int)×eB)×mI)×eB):Option ((Int)×dZ):=
 (Lf.aG (σ:=(Int)×dZ) (κ:=dZ⊕((Int)×dZ)) (fun z1=>
   bif (decide ((0:Int)≤z1.1)) then ((Lf.lG (26:Nat) z1.1)).bind fun r2=>
   ((Lf.nth (Lf.kD dP (26:Nat) z1.2.1) r2)).bind fun r3=>
   bif (decide ((r3.1:Int)=(8:Int))) then some (.inr (.inr z1))
   else some (.inl ((Go.IntKind.wrap .i64 (z1.1 - (1:Int))),z1.2))
   else some (.inr (.inl z1.2))) ((Go.IntKind.wrap .i64 (a0.2.1 - (1:Int))),a0):Option (dZ⊕((Int)×dZ))).bind fun r4=>
 Lf.bC r4 (fun a5=>
 some ((-(1:Int)),a5)) (fun b6=>
 some b6)
noncomputable def qP:Nat×Lf.Entry:=(72,⟨[.obj 123 aC aC []],[(.int .i64)],fun z=>kL z⟩)
theorem yo:Lf.aa Go.Proofs.Tryz.prog GG 72 qP.2:=Kx Go.Proofs.Tryz.f72 22 [] [] [] [] (.seq .no (.seq (.seq .no (.loop ⟨[],[(0, .ref 0 [] 0)],[(3,(.int .i64))],[(0,123,aC)],[]⟩ (.more (.ext 0) ⟨[],[(0, .ref 0 [] 0)],[],[(0,123,aC)],[]⟩ (.one .ret ⟨[],[(0, .ref 0 [] 0)],[(2,(.int .i64))],[(0,123,aC)],[]⟩)) .no)) .no)) [.tmp 2] .nil (fun z=>by kernel_rfl) (by kernel_rfl)
noncomputable def dE (a0:(((Int)×eB)×mI)×eB) (a1:(Int)×eB):Option dZ:=
 ((Lf.lG (26:Nat) a0.2.1)).bind fun r1=>
 ((Lf.nth (Lf.kD dP (26:Nat) a0.1) r1)).bind fun r2=>
 some ((Lf.Ef dP (26:Nat) a0.1 r1 a1),((Go.IntKind.wrap .i64 (a0.2.1+(1:Int))),a0.2.2))
noncomputable def kS:Nat×Lf.Entry:=(73,⟨[.obj 123 aC aC [], .val dP],[],fun z=>dE z.1 z.2⟩)
theorem rC:Lf.aa Go.Proofs.Tryz.prog GG 73 kS.2:=Kx Go.Proofs.Tryz.f73 20 [] [] [] [] (.seq .no (.seq (.draw 9) .no)) [] .nil (fun z=>by kernel_rfl) (by kernel_rfl)
noncomputable def si:Lf.Ctx:=⟨17,NP,[],[],[],[],[],uN,[],some 4611686018427387904,uK,[]⟩
noncomputable def rR:Go.Code:=(Go.Proofs.Tryz.f75.body).getD .skip
def rZ:Lf.qZ:=(.seq .no (.seq .no (.seq (.draw 10) .no)))
noncomputable def iK (a0:(((Int)×eB)×mI)×eB):Option (Option Nat×dZ):=
 bif (decide ((a0.2.1:Int)=(0:Int))) then some ((none:Option (Nat)),a0)
 else ((Lf.lG (26:Nat) (Go.IntKind.wrap .i64 (a0.2.1 - (1:Int))))).bind fun r1=>
 some ((some r1),a0)
theorem ze (a0:(((Int)×eB)×mI)×eB):Lf.Zn si rR rZ 123 aC [] [.i, .l] 0 5 2 a0=iK a0:=by kernel_rfl
noncomputable def bT (a0:(((Int)×eB)×mI)×eB):Option (Option Nat):=(iK a0).map (·.1)
theorem xu (a0:(((Int)×eB)×mI)×eB):Lf.Same a0 (iK a0):=by
 unfold iK
 repeat' (first | exact Lf.Same.some | exact Lf.Same.none | refine Lf.Same.cond _ ?_ ?_ | refine Lf.Same.bind _ (fun _=>?_))
noncomputable def fA:Nat×Lf.Ip:=(75,⟨123,aC,[],[.i, .l],0,5,fun z=>bT z⟩)
theorem gp:Lf.F3 Go.Proofs.Tryz.prog GG 75 fA.2:=
 Lf.Vd (c:=si) (code:=rR) (an:=rZ) (slot:=2) (fn:=Go.Proofs.Tryz.f75) (by kernel_rfl) ⟨qD,Lf.lv.look .nil,Lf.lZ.look .nil,jv,jA,Lf.oL.look .nil,Lf.pI.look .nil⟩ (by kernel_rfl) (by kernel_rfl) (by kernel_rfl) (by kernel_rfl) (by kernel_rfl) (Nat.le_of_ble_eq_true rfl) (by kernel_rfl) fun z m h=>(ze z).trans (Lf.Same.get (xu z) h)
noncomputable def nK:Lf.Ctx:=⟨18,NP,[],[],[],[],[fA],uN,[],some 4611686018427387904,uK,[]⟩
noncomputable def mf:Go.Code:=(Go.Proofs.Tryz.f74.body).getD .skip
def nV:Lf.qZ:=(.seq .no (.seq .no (.seq (.join (.one .aM ⟨[],[(0, .ref 0 [] 0)],[(4, .bool)],[(0,123,aC)],[]⟩) .no) .no)))
noncomputable def bQ (a0:(((Int)×eB)×mI)×eB) (a1:Int):Option ((Bool)×dZ):=
 ((Go.Fn.bT a0)).bind fun r1=>
 (bif (Option.isSome r1) then (r1).bind fun r2=>
  ((Lf.nth (Lf.kD dP (26:Nat) a0.1) r2)).bind fun r3=>
  some ((decide ((r3.1:Int)=a1)),a0)
  else some (false,a0)).bind fun r4=>
 some r4
theorem vT (a0:(((Int)×eB)×mI)×eB) (a1:Int):Lf.QH nK mf nV [.obj 123 aC aC [], .val (.int .i64)] [.bool] [.tmp 4] (a0,a1)=bQ a0 a1:=by kernel_rfl
noncomputable def gz:Nat×Lf.Entry:=(74,⟨[.obj 123 aC aC [], .val (.int .i64)],[.bool],fun z=>bQ z.1 z.2⟩)
theorem jy:Lf.aa Go.Proofs.Tryz.prog GG 74 gz.2:=
 Lf.xW (c:=nK) (code:=mf) (an:=nV) (slots:=[.tmp 4]) (fn:=Go.Proofs.Tryz.f74) (by kernel_rfl) ⟨qD,Lf.lv.look .nil,Lf.lZ.look (.bq gp .nil),jv,jA,Lf.oL.look .nil,Lf.pI.look .nil⟩ (by kernel_rfl) (by kernel_rfl) (by kernel_rfl) (by kernel_rfl) (by kernel_rfl) (Nat.le_of_ble_eq_true rfl) (by simp [Lf.Ty.top]) (by simp [Lf.Ty.top]) fun z r h=>(vT z.1 z.2).trans h
noncomputable def rM:Lf.Ctx:=⟨13,NP,[gz],[],[],[],[fA],uN,[],some 4611686018427387904,uK,[]⟩
noncomputable def oN:Go.Code:=(Go.Proofs.Tryz.f100.body).getD .skip
def rG:Lf.qZ:=(.seq .no (.seq (.join (.one .aM ⟨[],[(0, .ref 0 [] 0)],[(2, .bool)],[(0,123,aC)],[]⟩) .no) .no))
noncomputable def oq (a0:(((Int)×eB)×mI)×eB):Option ((Bool)×dZ):=
 (((Go.Fn.bQ a0 (10:Int))).bind fun r1=>
  bif r1.1 then ((Go.Fn.bT r1.2)).bind fun r2=>
  (r2).bind fun r3=>
  ((Lf.nth (Lf.kD dP (26:Nat) r1.2.1) r3)).bind fun r4=>
  some ((decide ((0:Int)<r4.2.1)),r1.2)
  else some (false,r1.2)).bind fun r5=>
 some r5
theorem yM (a0:(((Int)×eB)×mI)×eB):Lf.QH rM oN rG [.obj 123 aC aC []] [.bool] [.tmp 2] (a0)=oq a0:=by kernel_rfl
noncomputable def qQ:Nat×Lf.Entry:=(100,⟨[.obj 123 aC aC []],[.bool],fun z=>oq z⟩)
theorem yu:Lf.aa Go.Proofs.Tryz.prog GG 100 qQ.2:=
 Lf.xW (c:=rM) (code:=oN) (an:=rG) (slots:=[.tmp 2]) (fn:=Go.Proofs.Tryz.f100) (by kernel_rfl) ⟨qD,Lf.lv.look (.bq jy .nil),Lf.lZ.look (.bq gp .nil),jv,jA,Lf.oL.look .nil,Lf.pI.look .nil⟩ (by kernel_rfl) (by kernel_rfl) (by kernel_rfl) (by kernel_rfl) (by kernel_rfl) (Nat.le_of_ble_eq_true rfl) (by simp [Lf.Ty.top]) (by simp [Lf.Ty.top]) fun z r h=>(yM z).trans h
noncomputable def ry:Lf.Ctx:=⟨22,NP,[],[],[],[],[fA],uN,[],some 4611686018427387904,uK,[]⟩
noncomputable def oO:Go.Code:=(Go.Proofs.Tryz.f101.body).getD .skip
def qX:Lf.qZ:=(.seq .no (.seq (.join (.one .aM ⟨[],[(0, .ref 0 [] 0)],[(2, .bool)],[(0,123,aC)],[]⟩) (.draw 20)) .no))
noncomputable def kK (a0:(((Int)×eB)×mI)×eB):Option ((Bool)×dZ):=
 (((Go.Fn.bT a0)).bind fun r1=>
  (r1).bind fun r2=>
  ((Lf.nth (Lf.kD dP (26:Nat) a0.1) r2)).bind fun r3=>
  bif (!(decide ((r3.2.2.1:Int)=(0:Int)))) then ((Go.Fn.bT a0)).bind fun r4=>
  (r4).bind fun r5=>
  ((Lf.nth (Lf.kD dP (26:Nat) a0.1) r5)).bind fun r6=>
  ((Go.Fn.bT a0)).bind fun r7=>
  (r7).bind fun r8=>
  ((Lf.nth (Lf.kD dP (26:Nat) a0.1) r8)).bind fun r9=>
  some ((decide ((r6.2.2.2.1:Int)=r9.2.2.2.2.1)),a0)
  else some (true,a0)).bind fun r10=>
 some r10
theorem yN (a0:(((Int)×eB)×mI)×eB):Lf.QH ry oO qX [.obj 123 aC aC []] [.bool] [.tmp 2] (a0)=kK a0:=by kernel_rfl
noncomputable def qG:Nat×Lf.Entry:=(101,⟨[.obj 123 aC aC []],[.bool],fun z=>kK z⟩)
theorem ym:Lf.aa Go.Proofs.Tryz.prog GG 101 qG.2:=
 Lf.xW (c:=ry) (code:=oO) (an:=qX) (slots:=[.tmp 2]) (fn:=Go.Proofs.Tryz.f101) (by kernel_rfl) ⟨qD,Lf.lv.look .nil,Lf.lZ.look (.bq gp .nil),jv,jA,Lf.oL.look .nil,Lf.pI.look .nil⟩ (by kernel_rfl) (by kernel_rfl) (by kernel_rfl) (by kernel_rfl) (by kernel_rfl) (Nat.le_of_ble_eq_true rfl) (by simp [Lf.Ty.top]) (by simp [Lf.Ty.top]) fun z r h=>(yN z).trans h
noncomputable def pM:Lf.Ctx:=⟨137,NP,[kS,gz,qQ,qG],[],[],[],[fA],uN,[],some 4611686018427387904,uK,[]⟩
noncomputable def nJ:Go.Code:=(Go.Proofs.Tryz.f76.body).getD .skip
def o5:Lf.qZ:=(.seq .no (.seq .no (.seq (.join (.more .aM ⟨[],[(0, .ref 0 [] 0)],[],[(0,123,aC)],[]⟩ (.one .ret ⟨[],[(0, .ref 0 [] 0)],[(4, .bool)],[(0,123,aC)],[]⟩)) (.seq .no (.seq .no (.cnd (.seq (.seq (.jg 29) .no) .no) (.seq .no (.cnd (.seq (.seq (.join (.one .aM ⟨[],[(0, .ref 0 [] 0),(3, .ref 3 [] 0)],[(86, .bool)],[(0,123,aC),(3,44,(.st dY))],[]⟩) .no) .no) .no) (.seq .no (.cnd .no (.seq .no (.cnd .no (.seq .no (.cnd (.seq (.seq (.join (.one .aM ⟨[5],[(0, .ref 0 [] 0)],[(125, .bool)],[(0,123,aC)],[(5,0)]⟩) .no) .no) .no) (.seq (.seq (.join (.one .aM ⟨[],[(0, .ref 0 [] 0)],[(23, .bool)],[(0,123,aC)],[]⟩) .no) .no) .no))))))))))))) .no)))
noncomputable def gW (a0:(((Int)×eB)×mI)×eB) (a1:(Int)×((Int)×BL)):Option ((Bool)×dZ):=
 ((Go.Fn.bT a0)).bind fun r1=>
 (bif (decide ((a1.1:Int)=(8:Int))) then bif (Option.isSome r1) then none
  else ((Go.Fn.dE a0 (a1.1,((0:Int),((0:Int),((0:Int),((0:Int),()))))))).bind fun r2=>
  some (.inl r2)
  else bif (decide ((a1.1:Int)=(10:Int))) then (bif (Option.isSome r1) then ((Go.Fn.oq a0)).bind fun r3=>
   bif (!(!r3.1)) then some ((decide ((8:Int)≤r3.2.2.1)),(r3.2,a1))
   else some (true,(r3.2,a1))
   else some ((decide ((8:Int)≤a0.2.1)),(a0,a1))).bind fun r4=>
  bif r4.1 then some (.inr (false,r4.2.1))
  else ((Go.Fn.dE r4.2.1 (r4.2.2.1,((0:Int),((0:Int),((0:Int),((0:Int),()))))))).bind fun r5=>
  some (.inl r5)
  else bif (decide ((a1.1:Int)=(11:Int))) then ((Go.Fn.bQ a0 (10:Int))).bind fun r6=>
  bif (!r6.1) then some (.inr (false,r6.2))
  else (r1).bind fun r7=>
  ((Lf.nth (Lf.kD dP (26:Nat) r6.2.1) r7)).bind fun r8=>
  (r1).bind fun r9=>
  ((Lf.nth (Lf.kD dP (26:Nat) r6.2.1) r9)).bind fun r10=>
  some (.inl ((Lf.Ef dP (26:Nat) r6.2.1 r9 (r10.1,((Go.IntKind.wrap .i64 (r8.2.1+(1:Int))),r10.2.2))),r6.2.2))
  else bif (decide ((a1.1:Int)=(12:Int))) then bif (Option.isSome r1) then some (.inr (false,a0))
  else ((Go.Fn.dE a0 (a1.1,((0:Int),((0:Int),((0:Int),((((List.length a1.2.2.2.1):Nat):Int),()))))))).bind fun r11=>
  some (.inl r11)
  else bif (decide ((a1.1:Int)=(13:Int))) then (((Go.Fn.bQ a0 (12:Int))).bind fun r12=>
   bif (!(!r12.1)) then ((Go.Fn.kK r12.2)).bind fun r13=>
   some ((!r13.1),r13.2)
   else some (true,r12.2)).bind fun r14=>
  bif r14.1 then some (.inr (false,r14.2))
  else (r1).bind fun r15=>
  ((Lf.nth (Lf.kD dP (26:Nat) r14.2.1) r15)).bind fun r16=>
  (r1).bind fun r17=>
  ((Lf.nth (Lf.kD dP (26:Nat) r14.2.1) r17)).bind fun r18=>
  (r1).bind fun r19=>
  ((Lf.nth (Lf.kD dP (26:Nat) (Lf.Ef dP (26:Nat) r14.2.1 r17 (Lf.u2 r18 ((Go.IntKind.wrap .i64 (r16.2.2.1+(1:Int))),r18.2.2.2)))) r19)).bind fun r20=>
  some (.inl ((Lf.Ef dP (26:Nat) (Lf.Ef dP (26:Nat) r14.2.1 r17 (Lf.u2 r18 ((Go.IntKind.wrap .i64 (r16.2.2.1+(1:Int))),r18.2.2.2))) r19 (Lf.u3 r20 ((0:Int),r20.2.2.2.2))),r14.2.2))
  else (bif (!(Option.isNone r1)) then (r1).bind fun r21=>
   ((Lf.nth (Lf.kD dP (26:Nat) a0.1) r21)).bind fun r22=>
   bif (decide ((r22.1:Int)=(12:Int))) then ((Go.Fn.kK a0)).bind fun r23=>
   some ((!r23.1),r23.2)
   else some (false,a0)
   else some (true,a0)).bind fun r24=>
  bif r24.1 then some (.inr (false,r24.2))
  else some (.inl (r24.2.1,((Go.IntKind.wrap .i64 (r24.2.2.1 - (1:Int))),r24.2.2.2))):Option (dZ⊕((Bool)×dZ))).bind fun r25=>
 Lf.bC r25 (fun a26=>
 some (true,a26)) (fun b27=>
 some b27)
theorem xq (a0:(((Int)×eB)×mI)×eB) (a1:(Int)×((Int)×BL)):Lf.QH pM nJ o5 [.obj 123 aC aC [], .val (.st dY)] [.bool] [.tmp 4] (a0,a1)=gW a0 a1:=by kernel_rfl
noncomputable def pz:Nat×Lf.Entry:=(76,⟨[.obj 123 aC aC [], .val (.st dY)],[.bool],fun z=>gW z.1 z.2⟩)
theorem xH:Lf.aa Go.Proofs.Tryz.prog GG 76 pz.2:=
 Lf.xW (c:=pM) (code:=nJ) (an:=o5) (slots:=[.tmp 4]) (fn:=Go.Proofs.Tryz.f76) (by kernel_rfl) ⟨qD,Lf.lv.look (.bq rC (.bq jy (.bq yu (.bq ym .nil)))),Lf.lZ.look (.bq gp .nil),jv,jA,Lf.oL.look .nil,Lf.pI.look .nil⟩ (by kernel_rfl) (by kernel_rfl) (by kernel_rfl) (by kernel_rfl) (by kernel_rfl) (Nat.le_of_ble_eq_true rfl) (by simp [Lf.Ty.top]) (by simp [Lf.Ty.top]) fun z r h=>(xq z.1 z.2).trans h
noncomputable def pq:Lf.Ctx:=⟨122,NP,[qP,kS,gz,pz],[],[],[],[fA],uN,[],some 4611686018427387904,uK,[]⟩
noncomputable def nH:Go.Code:=(Go.Proofs.Tryz.f36.body).getD .skip
def o6:Lf.qZ:=(.seq .no (.seq .no (.seq (.seq .no (.seq (.seq (.seq (.join (.more .aM ⟨[5],[(0, .ref 0 [] 0),(3, .ref 3 [] 0)],[],[(0,123,aC),(3,44,(.st dY))],[]⟩ (.more (.ext 4) ⟨[5],[(0, .ref 0 [] 0)],[],[(0,123,aC)],[]⟩ (.more (.ext 5) ⟨[5],[(0, .ref 0 [] 0)],[],[(0,123,aC)],[]⟩ (.more (.ext 0) ⟨[5],[(0, .ref 0 [] 0),(3, .ref 3 [] 0)],[],[(0,123,aC),(3,44,(.st dY))],[]⟩ (.one .ret ⟨[],[(0, .ref 0 [] 0)],[(4, .bool)],[(0,123,aC)],[]⟩))))) (.seq (.seq (.seq (.seq (.seq (.join (.one .aM ⟨[5,11],[(0, .ref 0 [] 0),(3, .ref 3 [] 0)],[(12, .bool)],[(0,123,aC),(3,44,(.st dY))],[]⟩) .no) .no) (.seq (.seq (.join (.one .aM ⟨[5,11],[(0, .ref 0 [] 0),(3, .ref 3 [] 0)],[(16, .bool)],[(0,123,aC),(3,44,(.st dY))],[]⟩) .no) .no) .no)) .no) .no) (.seq .no (.loop ⟨[5],[(0, .ref 0 [] 0),(3, .ref 3 [] 0)],[(6,(.int .i64))],[(0,123,aC),(3,44,(.st dY))],[]⟩ (.more (.ext 6) ⟨[5],[(0, .ref 0 [] 0),(3, .ref 3 [] 0)],[],[(0,123,aC),(3,44,(.st dY))],[]⟩ (.one .ret ⟨[],[(0, .ref 0 [] 0)],[(4, .bool)],[(0,123,aC)],[]⟩)) (.seq .no (.seq (.seq .no (.seq (.join (.one .aM ⟨[5,6],[(0, .ref 0 [] 0),(3, .ref 3 [] 0)],[(49, .bool)],[(0,123,aC),(3,44,(.st dY))],[]⟩) .no) .no)) .no)))))) (.seq (.seq (.seq (.join (.one .aM ⟨[],[(0, .ref 0 [] 0),(3, .ref 3 [] 0)],[(61, .bool)],[(0,123,aC),(3,44,(.st dY))],[]⟩) .no) .no) .no) .no)) (.seq (.seq (.seq (.join (.one .aM ⟨[],[(0, .ref 0 [] 0)],[(78, .bool)],[(0,123,aC)],[]⟩) .no) .no) .no) .no)) (.seq (.seq (.seq (.join (.one .aM ⟨[],[(0, .ref 0 [] 0)],[(97, .bool)],[(0,123,aC)],[]⟩) .no) .no) (.seq .no (.seq (.join (.one .aM ⟨[],[(0, .ref 0 [] 0)],[],[(0,123,aC)],[]⟩) .no) .no))) .no))) (.seq (.join (.one .aM ⟨[],[(0, .ref 0 [] 0)],[(4, .bool)],[(0,123,aC)],[]⟩) .no) .no))))
noncomputable def gZ (a0:(((Int)×eB)×mI)×eB) (a1:(Int)×((Int)×BL)):Option ((Bool)×dZ):=
 ((Go.Fn.kL a0)).bind fun r1=>
 ((bif (decide ((a1.1:Int)=(1:Int))) then some ((decide ((a1.1:Int)=(1:Int))),(r1.2,a1))
   else bif (decide ((a1.1:Int)=(6:Int))) then some ((decide ((a1.1:Int)=(6:Int))),(r1.2,a1))
   else some ((decide ((a1.1:Int)=(7:Int))),(r1.2,a1))).bind fun r2=>
  bif r2.1 then some (.inr (.inr (.inr (.inr ((decide ((0:Int)≤r1.1)),r2.2.1)))))
  else (bif (decide ((a1.1:Int)=(3:Int))) then some ((decide ((a1.1:Int)=(3:Int))),r2.2)
   else some ((decide ((a1.1:Int)=(4:Int))),r2.2)).bind fun r3=>
  bif r3.1 then (Lf.aG (σ:=(Int)×(dZ×((Int)×((Int)×BL)))) (κ:=(dZ×((Int)×((Int)×BL)))⊕((Bool)×dZ)) (fun z4=>
    bif (decide (z4.1<z4.2.1.2.1)) then ((Lf.lG (26:Nat) z4.1)).bind fun r5=>
    ((Lf.nth (Lf.kD dP (26:Nat) z4.2.1.1) r5)).bind fun r6=>
    (bif (!(decide ((r6.1:Int)=(3:Int)))) then some ((decide ((r6.1:Int)=(4:Int))),z4.2)
     else some (true,z4.2)).bind fun r7=>
    bif r7.1 then some (.inr (.inr (false,r7.2.1)))
    else some (.inl ((Go.IntKind.wrap .i64 (z4.1+(1:Int))),r7.2))
    else some (.inr (.inl z4.2))) ((Max.max r1.1 (0:Int)),r3.2):Option ((dZ×((Int)×((Int)×BL)))⊕((Bool)×dZ))).bind fun r8=>
  Lf.bC r8 (fun a9=>
  some (.inl a9)) (fun b10=>
  some (.inr (.inr (.inr (.inr b10)))))
  else bif (decide ((a1.1:Int)=(2:Int))) then some (.inl r3.2)
  else bif (decide ((a1.1:Int)=(5:Int))) then some (.inr (.inl r3.2.1))
  else bif (decide ((a1.1:Int)=(9:Int))) then some (.inr (.inr (.inl r3.2.1)))
  else some (.inr (.inr (.inr (.inl r3.2)))):Option ((dZ×((Int)×((Int)×BL)))⊕(dZ⊕(dZ⊕((dZ×((Int)×((Int)×BL)))⊕((Bool)×dZ)))))).bind fun r11=>
 Lf.bC r11 (fun a12=>
 (bif (!(decide (r1.1<(0:Int)))) then some ((decide ((16:Int)≤(Go.IntKind.wrap .i64 ((Go.IntKind.wrap .i64 (a12.1.2.1 - r1.1)) - (1:Int))))),a12)
  else some (true,a12)).bind fun r13=>
 bif r13.1 then some (false,r13.2.1)
 else ((Go.Fn.dE r13.2.1 (r13.2.2.1,((0:Int),((0:Int),((0:Int),((0:Int),()))))))).bind fun r14=>
 some (true,r14)) (fun b15=>
 Lf.bC b15 (fun a16=>
 (bif (!(decide (r1.1<(0:Int)))) then some ((decide ((Go.IntKind.wrap .i64 ((Go.IntKind.wrap .i64 (a16.2.1 - r1.1)) - (1:Int)))<(1:Int))),a16)
  else some (true,a16)).bind fun r17=>
 bif r17.1 then some (false,r17.2)
 else some (true,(r17.2.1,((Go.IntKind.wrap .i64 (r17.2.2.1 - (1:Int))),r17.2.2.2)))) (fun b18=>
 Lf.bC b18 (fun a19=>
 (bif (!(decide (r1.1<(0:Int)))) then some ((decide ((0:Int)<(Go.IntKind.wrap .i64 ((Go.IntKind.wrap .i64 (a19.2.1 - r1.1)) - (1:Int))))),a19)
  else some (true,a19)).bind fun r20=>
 bif r20.1 then some (false,r20.2)
 else (((Go.Fn.bQ (r20.2.1,((Go.IntKind.wrap .i64 (r20.2.2.1 - (1:Int))),r20.2.2.2)) (12:Int))).bind fun r21=>
  bif r21.1 then ((Go.Fn.bT r21.2)).bind fun r22=>
  (r22).bind fun r23=>
  ((Lf.nth (Lf.kD dP (26:Nat) r21.2.1) r23)).bind fun r24=>
  (r22).bind fun r25=>
  ((Lf.nth (Lf.kD dP (26:Nat) r21.2.1) r25)).bind fun r26=>
  some ((Lf.Ef dP (26:Nat) r21.2.1 r25 (Lf.u3 r26 ((Go.IntKind.wrap .i64 (r24.2.2.2.1+(1:Int))),r26.2.2.2.2))),r21.2.2)
  else some r21.2).bind fun r27=>
 some (true,r27)) (fun b28=>
 Lf.bC b28 (fun a29=>
 (bif (decide (r1.1<(0:Int))) then ((Go.Fn.gW a29.1 a29.2)).bind fun r30=>
  some r30
  else some (false,a29.1)).bind fun r31=>
 some r31) (fun b32=>
 some b32))))
theorem xC (a0:(((Int)×eB)×mI)×eB) (a1:(Int)×((Int)×BL)):Lf.QH pq nH o6 [.obj 123 aC aC [], .val (.st dY)] [.bool] [.tmp 4] (a0,a1)=gZ a0 a1:=by kernel_rfl
noncomputable def oM:Nat×Lf.Entry:=(36,⟨[.obj 123 aC aC [], .val (.st dY)],[.bool],fun z=>gZ z.1 z.2⟩)
theorem w_:Lf.aa Go.Proofs.Tryz.prog GG 36 oM.2:=
 Lf.xW (c:=pq) (code:=nH) (an:=o6) (slots:=[.tmp 4]) (fn:=Go.Proofs.Tryz.f36) (by kernel_rfl) ⟨qD,Lf.lv.look (.bq yo (.bq rC (.bq jy (.bq xH .nil)))),Lf.lZ.look (.bq gp .nil),jv,jA,Lf.oL.look .nil,Lf.pI.look .nil⟩ (by kernel_rfl) (by kernel_rfl) (by kernel_rfl) (by kernel_rfl) (by kernel_rfl) (Nat.le_of_ble_eq_true rfl) (by simp [Lf.Ty.top]) (by simp [Lf.Ty.top]) fun z r h=>(xC z.1 z.2).trans h
noncomputable def zh (a0:List ((Int)×((Int)×BL))) (a1:Int) (a2:Int):Option ((Int)×(Int)):=
 (Lf.aG (σ:=(Int)×(Int)) (κ:=Int) (fun z1=>
   bif (decide (z1.1<(((List.length a0):Nat):Int))) then ((Lf.idx a0 z1.1)).bind fun r2=>
   some (.inl ((Go.IntKind.wrap .i64 (z1.1+(1:Int))),(Min.min (Go.IntKind.wrap .i64 (z1.2+(((List.length r2.2.2.1):Nat):Int))) (16385:Int))))
   else some (.inr z1.2)) ((0:Int),(0:Int)):Option (Int)).bind fun r3=>
 (bif (!(decide ((65536:Int)<(((List.length a0):Nat):Int)))) then some (decide ((16384:Int)<r3))
  else some true).bind fun r4=>
 bif r4 then some ((0:Int),(2:Int))
 else (Lf.aG (σ:=(Int)×dZ) (κ:=dZ⊕((Int)×(Int))) (fun z5=>
   bif (decide (z5.1<(((List.length a0):Nat):Int))) then ((Lf.idx a0 z5.1)).bind fun r6=>
   (((Go.Fn.kJ z5.2 r6)).bind fun r7=>
    bif (!(!r7.1)) then ((Go.Fn.gZ r7.2 r6)).bind fun r8=>
    some ((!r8.1),(r8.2,r6))
    else some (true,(r7.2,r6))).bind fun r9=>
   bif r9.1 then some (.inr (.inr (z5.1,(110:Int))))
   else some (.inl ((Go.IntKind.wrap .i64 (z5.1+(1:Int))),(Lf.u4 r9.2.1 (r9.2.2.1,r9.2.1.2.2.2.2.2))))
   else some (.inr (.inl z5.2))) ((0:Int),((((0:Int),((0:Int),((0:Int),((0:Int),((0:Int),()))))),(((0:Int),((0:Int),((0:Int),((0:Int),((0:Int),()))))),(((0:Int),((0:Int),((0:Int),((0:Int),((0:Int),()))))),(((0:Int),((0:Int),((0:Int),((0:Int),((0:Int),()))))),(((0:Int),((0:Int),((0:Int),((0:Int),((0:Int),()))))),(((0:Int),((0:Int),((0:Int),((0:Int),((0:Int),()))))),(((0:Int),((0:Int),((0:Int),((0:Int),((0:Int),()))))),(((0:Int),((0:Int),((0:Int),((0:Int),((0:Int),()))))),(((0:Int),((0:Int),((0:Int),((0:Int),((0:Int),()))))),(((0:Int),((0:Int),((0:Int),((0:Int),((0:Int),()))))),(((0:Int),((0:Int),((0:Int),((0:Int),((0:Int),()))))),(((0:Int),((0:Int),((0:Int),((0:Int),((0:Int),()))))),(((0:Int),((0:Int),((0:Int),((0:Int),((0:Int),()))))),(((0:Int),((0:Int),((0:Int),((0:Int),((0:Int),()))))),(((0:Int),((0:Int),((0:Int),((0:Int),((0:Int),()))))),(((0:Int),((0:Int),((0:Int),((0:Int),((0:Int),()))))),(((0:Int),((0:Int),((0:Int),((0:Int),((0:Int),()))))),(((0:Int),((0:Int),((0:Int),((0:Int),((0:Int),()))))),(((0:Int),((0:Int),((0:Int),((0:Int),((0:Int),()))))),(((0:Int),((0:Int),((0:Int),((0:Int),((0:Int),()))))),(((0:Int),((0:Int),((0:Int),((0:Int),((0:Int),()))))),(((0:Int),((0:Int),((0:Int),((0:Int),((0:Int),()))))),(((0:Int),((0:Int),((0:Int),((0:Int),((0:Int),()))))),(((0:Int),((0:Int),((0:Int),((0:Int),((0:Int),()))))),(((0:Int),((0:Int),((0:Int),((0:Int),((0:Int),()))))),(((0:Int),((0:Int),((0:Int),((0:Int),((0:Int),()))))),())))))))))))))))))))))))))),((0:Int),(a1,(a2,((0:Int),())))))):Option (dZ⊕((Int)×(Int)))).bind fun r10=>
 Lf.bC r10 (fun a11=>
 bif (decide ((0:Int)<a11.2.1)) then some ((((List.length a0):Nat):Int),(110:Int))
 else some ((0:Int),(0:Int))) (fun b12=>
 some b12)
noncomputable def AU:Nat×Lf.Entry:=(17,⟨[.val (.sl (.st dY)), .val (.int .i64), .val (.int .i64)],[(.int .i64),(.int .i64)],fun z=>zh z.1 z.2.1 z.2.2⟩)
theorem Ia:Lf.aa Go.Proofs.Tryz.prog GG 17 AU.2:=Kx Go.Proofs.Tryz.f17 69 [qU,oM] [] [] [] (.seq .no (.seq .no (.seq (.seq .no (.loop ⟨[14,0,2,1,15],[],[(16,(.int .i64)),(8,(.int .i64))],[],[]⟩ (.one (.ext 0) ⟨[0,2,1],[],[(8,(.int .i64))],[],[]⟩) .no)) (.seq (.seq (.join (.one .aM ⟨[0,2,1],[],[(33, .bool)],[],[]⟩) .no) .no) (.seq .no (.seq (.seq .no (.loop ⟨[38,0,39],[(11, .ref 37 [] 0)],[(40,(.int .i64))],[(37,123,aC)],[]⟩ (.more (.ext 2) ⟨[0],[(11, .ref 37 [] 0)],[],[(37,123,aC)],[]⟩ (.one .ret ⟨[],[],[(6,(.int .i64)),(7,(.int .i64))],[],[]⟩)) (.seq .no (.seq .no (.seq (.seq .no (.seq (.seq (.join (.one .aM ⟨[12,38,0,39,40],[(11, .ref 37 [] 0),(13, .ref 13 [] 0)],[(54, .bool)],[(37,123,aC),(13,44,(.st dY))],[]⟩) .no) .no) .no)) .no))))) .no)))))) [.tmp 6, .tmp 7] (.bq yF (.bq w_ .nil)) (fun z=>by kernel_rfl) (by kernel_rfl)
end Go.Fn
open Go Go.Lf
set_option maxRecDepth 10000
namespace Go.Fn
noncomputable def dX (a0:List (UInt8)):Option (Bool):=
 (bif (!(decide ((((List.length a0):Nat):Int)<(1:Int)))) then some (decide ((12:Int)<(((List.length a0):Nat):Int)))
  else some true).bind fun r1=>
 bif r1 then some false
 else (Lf.aG (σ:=Int) (κ:=(Unit)⊕(Bool)) (fun z2=>
   bif (decide (z2<(((List.length a0):Nat):Int))) then (((Lf.idx a0 z2)).bind fun r3=>
    bif (!(decide ((((UInt8.toNat r3):Nat):Int)<(97:Int)))) then ((Lf.idx a0 z2)).bind fun r4=>
    some (decide ((122:Int)<(((UInt8.toNat r4):Nat):Int)))
    else some true).bind fun r5=>
   bif r5 then some (.inr (.inr false))
   else some (.inl (Go.IntKind.wrap .i64 (z2+(1:Int))))
   else some (.inr (.inl ()))) (0:Int):Option ((Unit)⊕(Bool))).bind fun r6=>
 Lf.bC r6 (fun a7=>
 some true) (fun b8=>
 some b8)
noncomputable def vU:Nat×Lf.Entry:=(31,⟨[.val .str],[.bool],fun z=>dX z⟩)
theorem D_:Lf.aa Go.Proofs.Tryz.prog GG 31 vU.2:=Kx Go.Proofs.Tryz.f31 28 [] [] [] [] (.seq .no (.seq (.seq (.join (.one .aM ⟨[0],[],[(11, .bool)],[],[]⟩) .no) .no) (.seq (.seq .no (.loop ⟨[0,13],[],[(14,(.int .i64))],[],[]⟩ (.more (.ext 0) ⟨[],[],[],[],[]⟩ (.one .ret ⟨[],[],[(2, .bool)],[],[]⟩)) (.seq .no (.seq .no (.seq (.seq .no (.seq (.join (.one .aM ⟨[0,13,14],[],[(26, .bool)],[],[]⟩) .no) .no)) .no))))) .no))) [.tmp 2] .nil (fun z=>by kernel_rfl) (by kernel_rfl)
noncomputable def dw (a0:List eQ) (a1:List (UInt8)):Option ((Int)×(Bool)):=
 (Lf.aG (σ:=Int) (κ:=(Unit)⊕((Int)×(Bool))) (fun z1=>
   bif (decide (z1<(((List.length a0):Nat):Int))) then ((Lf.idx a0 z1)).bind fun r2=>
   bif (decide ((r2.1:List (UInt8))=a1)) then some (.inr (.inr (z1,true)))
   else some (.inl (Go.IntKind.wrap .i64 (z1+(1:Int))))
   else some (.inr (.inl ()))) (0:Int):Option ((Unit)⊕((Int)×(Bool)))).bind fun r3=>
 Lf.bC r3 (fun a4=>
 some ((0:Int),false)) (fun b5=>
 some b5)
noncomputable def kz:Nat×Lf.Entry:=(32,⟨[.val l_, .val .str],[(.int .i64), .bool],fun z=>dw z.1 z.2⟩)
theorem ni:Lf.aa Go.Proofs.Tryz.prog GG 32 kz.2:=Kx Go.Proofs.Tryz.f32 21 [] [] [] [] (.seq .no (.seq (.seq .no (.loop ⟨[1,0,8],[],[(9,(.int .i64))],[],[]⟩ (.more (.ext 0) ⟨[],[],[],[],[]⟩ (.one .ret ⟨[],[],[(4,(.int .i64)),(5, .bool)],[],[]⟩)) .no)) .no)) [.tmp 4, .tmp 5] .nil (fun z=>by kernel_rfl) (by kernel_rfl)
noncomputable def dV (a0:(Int)×((Int)×((Int)×(Unit)))):Option (Int):=
 (bif (!(decide (((Lf.bits .andNot .i64 a0.1 (127:Int)):Int)≠(0:Int)))) then bif (!(decide (((Lf.bits .andNot .i64 a0.2.1 (127:Int)):Int)≠(0:Int)))) then bif (!(decide (a0.1<(0:Int)))) then bif (!(decide (a0.2.1<(0:Int)))) then some ((decide (((Lf.bits .and .i64 a0.1 a0.2.1):Int)≠(0:Int))),a0)
  else some (true,a0)
  else some (true,a0)
  else some (true,a0)
  else some (true,a0)).bind fun r1=>
 bif r1.1 then some (62:Int)
 else (bif (!(decide (r1.2.2.2.1<(-(1:Int))))) then some (decide ((15:Int)<r1.2.2.2.1))
  else some true).bind fun r2=>
 bif r2 then some (63:Int)
 else some (0:Int)
noncomputable def uS:Nat×Lf.Entry:=(33,⟨[.val eY],[(.int .i64)],fun z=>dV z⟩)
theorem BD:Lf.aa Go.Proofs.Tryz.prog GG 33 uS.2:=Kx Go.Proofs.Tryz.f33 41 [] [] [] [] (.seq .no (.seq (.seq (.join (.one .aM ⟨[],[(1, .ref 1 [] 0)],[(3, .bool)],[(1,78,eY)],[]⟩) .no) (.cnd .no (.seq (.join (.one .aM ⟨[],[],[(32, .bool)],[],[]⟩) .no) .no))) .no)) [.tmp 2] .nil (fun z=>by kernel_rfl) (by kernel_rfl)
noncomputable def mO (a0:List eQ) (a1:Int):Option (Bool):=
 (Lf.aG (σ:=(Int)×((Int)×(Bool))) (κ:=Bool) (fun z1=>
   bif (decide (z1.1<(8:Int))) then ((Lf.idx a0 z1.2.1)).bind fun r2=>
   ((Go.Fn.dw a0 r2.2.1)).bind fun r3=>
   (((Lf.idx a0 z1.2.1)).bind fun r4=>
    bif (!(decide ((r4.2.1:List (UInt8))=([]:List (UInt8))))) then some (!r3.2)
    else some true).bind fun r5=>
   bif r5 then some (.inr true)
   else some (.inl ((Go.IntKind.wrap .i64 (z1.1+(1:Int))),(r3.1,z1.2.2)))
   else some (.inr z1.2.2)) ((0:Int),(a1,false)):Option (Bool)).bind fun r6=>
 some r6
noncomputable def xQ:Nat×Lf.Entry:=(34,⟨[.val l_, .val (.int .i64)],[.bool],fun z=>mO z.1 z.2⟩)
theorem Et:Lf.aa Go.Proofs.Tryz.prog GG 34 xQ.2:=Kx Go.Proofs.Tryz.f34 33 [kz] [] [] [] (.seq .no (.seq .no (.seq .no (.seq (.seq .no (.loop ⟨[0],[],[(8,(.int .i64)),(1,(.int .i64)),(5, .bool)],[],[]⟩ (.one (.ext 0) ⟨[],[],[(5, .bool)],[],[]⟩) (.seq .no (.seq .no (.seq (.seq .no (.seq (.seq (.join (.one .aM ⟨[0,5,8,6],[],[(29, .bool)],[],[]⟩) .no) .no) .no)) .no))))) .no)))) [.tmp 4] (.bq ni .nil) (fun z=>by kernel_rfl) (by kernel_rfl)
noncomputable def bE (a0:List eQ):Option ((Int)×(Int)):=
 bif (decide ((64:Int)<(((List.length a0):Nat):Int))) then some ((0:Int),(2:Int))
 else (Lf.aG (σ:=Int) (κ:=(Unit)⊕((Int)×(Int))) (fun z1=>
   bif (decide (z1<(((List.length a0):Nat):Int))) then ((Lf.idx a0 z1)).bind fun r2=>
   ((Go.Fn.dX r2.1)).bind fun r3=>
   bif (!r3) then some (.inr (.inr (z1,(60:Int))))
   else ((Lf.sub a0 (0:Int) z1)).bind fun r4=>
   ((Go.Fn.dw r4 r2.1)).bind fun r5=>
   bif r5.2 then some (.inr (.inr (z1,(61:Int))))
   else ((Go.Fn.dV r2.2.2.1)).bind fun r6=>
   bif (decide ((r6:Int)≠(0:Int))) then some (.inr (.inr (z1,r6)))
   else some (.inl (Go.IntKind.wrap .i64 (z1+(1:Int))))
   else some (.inr (.inl ()))) (0:Int):Option ((Unit)⊕((Int)×(Int)))).bind fun r7=>
 Lf.bC r7 (fun a8=>
 (Lf.aG (σ:=Int) (κ:=(Unit)⊕((Int)×(Int))) (fun z9=>
   bif (decide (z9<(((List.length a0):Nat):Int))) then (((Lf.idx a0 z9)).bind fun r10=>
    bif (decide ((r10.2.1:List (UInt8))=([]:List (UInt8)))) then some (.inl ())
    else ((Go.Fn.dw a0 r10.2.1)).bind fun r11=>
    bif (!r11.2) then some (.inr (z9,(64:Int)))
    else ((Go.Fn.mO a0 z9)).bind fun r12=>
    bif (!r12) then some (.inr (z9,(65:Int)))
    else some (.inl ()):Option ((Unit)⊕((Int)×(Int)))).bind fun r13=>
   Lf.bC r13 (fun a14=>
   some (.inl (Go.IntKind.wrap .i64 (z9+(1:Int))))) (fun b15=>
   some (.inr (.inr b15)))
   else some (.inr (.inl ()))) (0:Int):Option ((Unit)⊕((Int)×(Int)))).bind fun r16=>
 Lf.bC r16 (fun a17=>
 some ((0:Int),(0:Int))) (fun b18=>
 some b18)) (fun b19=>
 some b19)
noncomputable def qH:Nat×Lf.Entry:=(16,⟨[.val l_],[(.int .i64),(.int .i64)],fun z=>bE z⟩)
theorem vX:Lf.aa Go.Proofs.Tryz.prog GG 16 qH.2:=Kx Go.Proofs.Tryz.f16 73 [vU,kz,uS,xQ] [] [] [] (.seq .no (.seq .no (.seq (.seq .no (.loop ⟨[0,16,17],[],[(18,(.int .i64))],[],[]⟩ (.more (.ext 0) ⟨[0],[],[],[],[]⟩ (.one .ret ⟨[],[],[(2,(.int .i64)),(3,(.int .i64))],[],[]⟩)) (.seq .no (.seq .no (.seq (.seq .no (.seq .no (.seq (.seq (.draw 11) .no) .no))) .no))))) (.seq (.seq .no (.loop ⟨[0,47,48],[],[(49,(.int .i64))],[],[]⟩ (.more (.ext 2) ⟨[],[],[],[],[]⟩ (.one .ret ⟨[],[],[(2,(.int .i64)),(3,(.int .i64))],[],[]⟩)) (.seq .no (.seq .no (.seq (.join (.more .aM ⟨[0,47,48,49],[],[],[],[]⟩ (.one .ret ⟨[],[],[(2,(.int .i64)),(3,(.int .i64))],[],[]⟩)) .no) .no))))) .no)))) [.tmp 2, .tmp 3] (.bq D_ (.bq ni (.bq BD (.bq Et .nil)))) (fun z=>by kernel_rfl) (by kernel_rfl)
noncomputable def wH  :Option ((Int)×((Int)×((Int)×(Unit)))):=
 some ((0:Int),((0:Int),((-(1:Int)),())))
noncomputable def wG:Nat×Lf.Entry:=(77,⟨[],[eY],fun _=>wH ⟩)
theorem DJ:Lf.aa Go.Proofs.Tryz.prog GG 77 wG.2:=Kx Go.Proofs.Tryz.f77 2 [] [] [] [] .no [.cell 0 78] .nil (fun z=>by kernel_rfl) (by kernel_rfl)
noncomputable def mV (a0:(Int)×((Int)×((Int)×(Unit)))) (a1:(Int)×((Int)×((Int)×(Unit)))):Option ((Int)×((Int)×((Int)×(Unit)))):=
 (bif (decide ((a1.2.2.1:Int)=(-(1:Int)))) then some (((0:Int),((0:Int),((0:Int),()))),((Lf.bits .or .i64 (Lf.bits .andNot .i64 a0.1 a1.2.1) a1.1),((Lf.bits .or .i64 (Lf.bits .andNot .i64 a0.2.1 a1.1) a1.2.1),(a0.2.2.1,a1.2.2.2))))
  else some (((0:Int),((0:Int),((0:Int),()))),((Lf.bits .or .i64 (Lf.bits .andNot .i64 a0.1 a1.2.1) a1.1),((Lf.bits .or .i64 (Lf.bits .andNot .i64 a0.2.1 a1.1) a1.2.1),a1.2.2)))).bind fun r1=>
 some r1.2
noncomputable def yg:Nat×Lf.Entry:=(78,⟨[.val eY, .val eY],[eY],fun z=>mV z.1 z.2⟩)
theorem Ei:Lf.aa Go.Proofs.Tryz.prog GG 78 yg.2:=Kx Go.Proofs.Tryz.f78 32 [] [] [] [] (.seq .no (.seq .no (.seq (.join (.one .aM ⟨[],[(4, .ref 4 [] 0),(5, .ref 5 [] 0)],[],[(4,78,eY),(5,78,eY)],[]⟩) .no) .no))) [.cell 4 78] .nil (fun z=>by kernel_rfl) (by kernel_rfl)
noncomputable def vQ (self:(List eQ)×(Int)→Option ((Int)×((Int)×((Int)×(Unit))))):Lf.Ctx:=⟨38,NP,[kz,(37,⟨[.val l_, .val (.int .i64)],[eY],self⟩),wG,yg],[],[],[],[],uN,[],some 4611686018427387904,uK,[]⟩
noncomputable def uR:Go.Code:=(Go.Proofs.Tryz.f37.body).getD .skip
def v_:Lf.qZ:=(.seq .no (.seq .no (.seq (.join (.one .aM ⟨[1,0],[(4, .ref 4 [] 0),(5, .ref 5 [] 0)],[],[(4,78,eY),(5,78,eY)],[]⟩) (.seq .no (.seq (.join (.one .aM ⟨[1,0,6],[(4, .ref 4 [] 0),(5, .ref 5 [] 0)],[(27, .bool)],[(4,78,eY),(5,78,eY)],[]⟩) .no) .no))) (.seq (.draw 7) .no))))
noncomputable def fe (self:(List eQ)×(Int)→Option ((Int)×((Int)×((Int)×(Unit))))) (a0:List eQ) (a1:Int):Option ((Int)×((Int)×((Int)×(Unit)))):=
 (Go.Fn.wH).bind fun r1=>
 (((Lf.idx a0 a1)).bind fun r2=>
  ((Go.Fn.dw a0 r2.2.1)).bind fun r3=>
  (bif r3.2 then ((Lf.idx a0 a1)).bind fun r4=>
   some ((decide ((r4.2.1:List (UInt8))≠([]:List (UInt8)))),(((0:Int),((0:Int),((0:Int),()))),r1))
   else some (false,(((0:Int),((0:Int),((0:Int),()))),r1))).bind fun r5=>
  bif r5.1 then ((self (a0,r3.1))).bind fun r6=>
  some (r5.2.1,r6)
  else some r5.2).bind fun r7=>
 ((Lf.idx a0 a1)).bind fun r8=>
 ((Go.Fn.mV r7.2 r8.2.2.1)).bind fun r9=>
 some r9
theorem Db (self:(List eQ)×(Int)→Option ((Int)×((Int)×((Int)×(Unit))))) (a0:List eQ) (a1:Int):Lf.QH (vQ self) uR v_ [.val l_, .val (.int .i64)] [eY] [.cell 4 78] (a0,a1)=fe self a0 a1:=by kernel_rfl
noncomputable def aX:Nat→(List eQ)×(Int)→Option ((Int)×((Int)×((Int)×(Unit))))
 | 0=>fun _=>none
 | n+1=>fun z=>fe (aX n) z.1 z.2
noncomputable def fw (a0:List eQ) (a1:Int):Option ((Int)×((Int)×((Int)×(Unit)))):=Lf.F5 fun n=>aX n (a0,a1)
noncomputable def vS:Nat×Lf.Entry:=(37,⟨[.val l_, .val (.int .i64)],[eY],fun z=>fw z.1 z.2⟩)
theorem Dw:Lf.aa Go.Proofs.Tryz.prog GG 37 vS.2:=
 Lf.O9 (ps:=[.val l_, .val (.int .i64)]) (rs:=[eY]) (N:=aX) Go.Proofs.Tryz.f37 (by kernel_rfl) (by kernel_rfl) (by kernel_rfl) (by simp [Lf.Ty.top]) (fun _=>rfl) fun n ih=>Lf.xW (c:=vQ (aX n)) (code:=uR) (an:=v_) (slots:=[.cell 4 78]) (fn:=Go.Proofs.Tryz.f37) (by kernel_rfl) ⟨qD,Lf.lv.look (.bq ni (.cons ih (.bq DJ (.bq Ei .nil)))),Lf.lZ.look .nil,jv,jA,Lf.oL.look .nil,Lf.pI.look .nil⟩ (by kernel_rfl) (by kernel_rfl) (by kernel_rfl) (by kernel_rfl) (by kernel_rfl) (Nat.le_of_ble_eq_true rfl) (by simp [Lf.Ty.top]) (by simp [Lf.Ty.top]) fun z r h=>(Db (aX n) z.1 z.2).trans h
noncomputable def ig (a0:List eQ) (a1:List (UInt8)):Option (((Int)×((Int)×((Int)×(Unit))))×(Int)):=
 ((Go.Fn.bE a0)).bind fun r1=>
 bif (decide ((r1.2:Int)≠(0:Int))) then some (((0:Int),((0:Int),((0:Int),()))),r1.2)
 else ((Go.Fn.dw a0 a1)).bind fun r2=>
 bif (!r2.2) then some (((0:Int),((0:Int),((0:Int),()))),(66:Int))
 else ((Go.Fn.fw a0 r2.1)).bind fun r3=>
 some (r3,(0:Int))
noncomputable def vN:Nat×Lf.Entry:=(18,⟨[.val l_, .val .str],[eY,(.int .i64)],fun z=>ig z.1 z.2⟩)
theorem Dj:Lf.aa Go.Proofs.Tryz.prog GG 18 vN.2:=Kx Go.Proofs.Tryz.f18 31 [qH,kz,vS] [10] [] [] .no [.cell 4 78, .tmp 5] (.bq vX (.bq ni (.bq Dw .nil))) (fun z=>by kernel_rfl) (by kernel_rfl)
noncomputable def lu (a0:(Int)×((Int)×(Unit))) (a1:(Int)×((Int)×((Int)×(Unit)))):Option ((Int)×((Int)×(Unit))):=
 (bif (decide ((a1.2.2.1:Int)≠(-(1:Int)))) then some (((0:Int),((0:Int),())),((Lf.bits .andNot .i64 (Lf.bits .or .i64 a0.1 a1.1) a1.2.1),(a1.2.2.1,a0.2.2)))
  else some (((0:Int),((0:Int),())),((Lf.bits .andNot .i64 (Lf.bits .or .i64 a0.1 a1.1) a1.2.1),a0.2))).bind fun r1=>
 some r1.2
noncomputable def vL:Nat×Lf.Entry:=(79,⟨[.val (.st bM), .val eY],[(.st bM)],fun z=>lu z.1 z.2⟩)
theorem DF:Lf.aa Go.Proofs.Tryz.prog GG 79 vL.2:=Kx Go.Proofs.Tryz.f79 21 [] [] [] [] (.seq .no (.seq .no (.seq (.join (.one .aM ⟨[],[(4, .ref 4 [] 0),(2, .ref 2 [] 0)],[],[(4,39,(.st bM)),(2,39,(.st bM))],[]⟩) .no) .no))) [.cell 4 39] .nil (fun z=>by kernel_rfl) (by kernel_rfl)
end Go.Fn
open Go Go.Lf
set_option maxRecDepth 10000
namespace Go.Fn
noncomputable def aV (a0:(Int)×((Int)×((List (UInt8))×(Unit)))):Option (Bool):=
 some (decide ((a0.1:Int)=(1:Int)))
noncomputable def dG:Nat×Lf.Entry:=(38,⟨[.val (.ptr (.st Kt))],[.bool],fun z=>aV z⟩)
theorem fU:Lf.aa Go.Proofs.Tryz.prog GG 38 dG.2:=Kx Go.Proofs.Tryz.f38 8 [] [] [] [] .no [.tmp 2] .nil (fun z=>by kernel_rfl) (by kernel_rfl)
noncomputable def dC (a0:BJ×iL) (a1:List ae):Option (BJ×iL):=
 bif (decide ((2000:Int)≤(((List.length a0.2.2.2.2.2.2.2.2.2.1.1):Nat):Int))) then some (Lf.u9 a0 ((Lf.u3 a0.2.2.2.2.2.2.2.2.2.1 (true,a0.2.2.2.2.2.2.2.2.2.1.2.2.2.2)),a0.2.2.2.2.2.2.2.2.2.2))
 else ((Lf.app (24:Nat) a0.2.2.2.2.2.2.2.2.2.1.1 (a1::([]:List (List ae))))).bind fun r1=>
 some (Lf.u9 a0 ((r1,a0.2.2.2.2.2.2.2.2.2.1.2),a0.2.2.2.2.2.2.2.2.2.2))
noncomputable def eX:Nat×Lf.Entry:=(39,⟨[.obj 76 (.st gV) (.st gV) [], .val (.sl (.st ax))],[],fun z=>dC z.1 z.2⟩)
theorem iA:Lf.aa Go.Proofs.Tryz.prog GG 39 eX.2:=Kx Go.Proofs.Tryz.f39 27 [] [20] [] [(20,fK)] .no [] .nil (fun z=>by kernel_rfl) (by kernel_rfl)
noncomputable def uI  :Option ((Int)×((Int)×(Unit))):=
 some ((0:Int),((7:Int),()))
noncomputable def oJ:Nat×Lf.Entry:=(82,⟨[],[(.st bM)],fun _=>uI ⟩)
theorem uQ:Lf.aa Go.Proofs.Tryz.prog GG 82 oJ.2:=Kx Go.Proofs.Tryz.f82 2 [] [] [] [] .no [.cell 0 39] .nil (fun z=>by kernel_rfl) (by kernel_rfl)
noncomputable def aS (a0:Tt×Ta):Option ((Int)×((Int)×(Unit))):=
 bif (decide ((a0.2.2.1:Int)=(0:Int))) then (Go.Fn.uI).bind fun r1=>
 some r1
 else ((Lf.idx (Lf.kD (.st bM) (32:Nat) a0.1) (Go.IntKind.wrap .i64 (a0.2.2.1 - (1:Int))))).bind fun r2=>
 some r2
noncomputable def jq:Nat×Lf.Entry:=(43,⟨[.val (.ptr CE)],[(.st bM)],fun z=>aS z⟩)
theorem nQ:Lf.aa Go.Proofs.Tryz.prog GG 43 jq.2:=Kx Go.Proofs.Tryz.f43 19 [oJ] [] [] [] (.seq .no (.seq .no (.seq (.draw 10) .no))) [.cell 2 39] (.bq uQ .nil) (fun z=>by kernel_rfl) (by kernel_rfl)
noncomputable def dO (a0:BJ×iL) (a1:Int):Option (((Int)×((Int)×(Unit)))×(BJ×iL)):=
 bif (decide (a1<(0:Int))) then ((Go.Fn.aS a0.2.1)).bind fun r1=>
 some (r1,a0)
 else ((Go.Fn.aS a0.2.1)).bind fun r2=>
 ((Lf.idx a0.2.2.1 a1)).bind fun r3=>
 ((Go.Fn.lu r2 r3)).bind fun r4=>
 some (r4,a0)
noncomputable def kH:Nat×Lf.Entry:=(41,⟨[.obj 76 (.st gV) (.st gV) [], .val (.int .i64)],[(.st bM)],fun z=>dO z.1 z.2⟩)
theorem sH:Lf.aa Go.Proofs.Tryz.prog GG 41 kH.2:=Kx Go.Proofs.Tryz.f41 23 [jq,vL] [] [] [] (.seq .no (.seq .no (.seq (.draw 12) .no))) [.cell 4 39] (.bq nQ (.bq DF .nil)) (fun z=>by kernel_rfl) (by kernel_rfl)
noncomputable def eF (a0:BJ×iL) (a1:(Int)×((Int)×(Unit))) (a2:Int):Option (BJ×iL):=
 ((Lf.lG (32:Nat) a0.2.1.2.2.1)).bind fun r1=>
 ((Lf.nth (Lf.kD (.st bM) (32:Nat) a0.2.1.1) r1)).bind fun r2=>
 ((Lf.lG (32:Nat) a0.2.1.2.2.1)).bind fun r3=>
 ((Lf.nth (Lf.kD (.int .i64) (32:Nat) a0.2.1.2.1) r3)).bind fun r4=>
 some (a0.1,(((Lf.Ef (.st bM) (32:Nat) a0.2.1.1 r1 a1),((Lf.Ef (.int .i64) (32:Nat) a0.2.1.2.1 r3 a2),((Go.IntKind.wrap .i64 (a0.2.1.2.2.1+(1:Int))),a0.2.1.2.2.2))),a0.2.2))
noncomputable def nC:Nat×Lf.Entry:=(40,⟨[.obj 76 (.st gV) (.st gV) [.i, .r, .l], .val (.st bM), .val (.int .i64)],[],fun z=>eF z.1 z.2.1 z.2.2⟩)
theorem vD:Lf.aa Go.Proofs.Tryz.prog GG 40 nC.2:=Kx Go.Proofs.Tryz.f40 31 [] [] [] [] (.seq .no (.seq (.perm [0,1,2,3,4,5,6,7,8,9,10,11,12,13,14,16,17,15,18,19] (.jg 17)) .no)) [] .nil (fun z=>by kernel_rfl) (by kernel_rfl)
noncomputable def wm (a0:List (UInt8)):Option ae:=
 (Go.Fn.uI).bind fun r1=>
 some (a0,((1:Int),(r1,((0:Int),()))))
noncomputable def rJ:Nat×Lf.Entry:=(109,⟨[.val .str],[(.st ax)],fun z=>wm z⟩)
theorem vE:Lf.aa Go.Proofs.Tryz.prog GG 109 rJ.2:=Kx Go.Proofs.Tryz.f109 6 [oJ] [] [] [] .no [.cell 2 52] (.bq uQ .nil) (fun z=>by kernel_rfl) (by kernel_rfl)
noncomputable def iQ (a0:List ae) (a1:Int):Option (List ae):=
 (Lf.aG (σ:=List ae) (κ:=List ae) (fun z1=>
   bif (decide ((((List.length z1):Nat):Int)<a1)) then ((Go.Fn.wm ((32:UInt8)::([]:List (UInt8))))).bind fun r2=>
   ((Lf.app (48:Nat) z1 (r2::([]:List ae)))).bind fun r3=>
   some (.inl r3)
   else some (.inr z1)) a0:Option (List ae)).bind fun r4=>
 some r4
noncomputable def mR:Nat×Lf.Entry:=(85,⟨[.val (.rw 52 (.st ax)), .val (.int .i64)],[(.rw 52 (.st ax))],fun z=>iQ z.1 z.2⟩)
theorem tV:Lf.aa Go.Proofs.Tryz.prog GG 85 mR.2:=Kx Go.Proofs.Tryz.f85 14 [rJ] [0,4,9,13] [] [(0,(.rw 52 (.st ax))),(4,(.rw 52 (.st ax))),(9,(.rw 52 (.st ax))),(13,(.rw 52 (.st ax)))] (.seq .no (.seq (.loop ⟨[1],[],[(0,(.rw 52 (.st ax)))],[],[]⟩ (.one (.ext 0) ⟨[],[],[(0,(.rw 52 (.st ax)))],[],[]⟩) .no) .no)) [.tmp 4] (.bq vE .nil) (fun z=>by kernel_rfl) (by kernel_rfl)
noncomputable def pK (a0:BJ×iL):Option ((List ae)×(BJ×iL)):=
 ((Go.Fn.iQ ([]:List ae) a0.1.2.1)).bind fun r1=>
 (Lf.aG (σ:=(Int)×((List ae)×(BJ×iL))) (κ:=(List ae)×(BJ×iL)) (fun z2=>
   bif (decide (z2.1<(((List.length a0.1.2.2.1):Nat):Int))) then ((Lf.sub z2.2.2.1.2.2.1 z2.1 (Go.IntKind.wrap .i64 (z2.1+(1:Int))))).bind fun r3=>
   ((Go.Fn.wm r3)).bind fun r4=>
   ((Lf.app (48:Nat) z2.2.1 (r4::([]:List ae)))).bind fun r5=>
   some (.inl ((Go.IntKind.wrap .i64 (z2.1+(1:Int))),(r5,z2.2.2)))
   else some (.inr z2.2)) ((0:Int),(r1,a0)):Option ((List ae)×(BJ×iL))).bind fun r6=>
 some r6
noncomputable def lJ:Nat×Lf.Entry:=(84,⟨[.obj 76 (.st gV) (.st gV) [.i, .l]],[(.rw 52 (.st ax))],fun z=>pK z⟩)
theorem uy:Lf.aa Go.Proofs.Tryz.prog GG 84 lJ.2:=Kx Go.Proofs.Tryz.f84 32 [mR,rJ] [2,3,18,31] [] [(2,(.rw 52 (.st ax))),(3,(.rw 52 (.st ax))),(18,(.rw 52 (.st ax))),(31,(.rw 52 (.st ax)))] (.seq .no (.seq .no (.seq (.seq .no (.loop ⟨[14],[(0, .ref 0 [.i, .l] 0)],[(15,(.int .i64)),(3,(.rw 52 (.st ax)))],[(0,76,(.st gV))],[]⟩ (.one (.ext 0) ⟨[],[(0, .ref 0 [.i, .l] 0)],[(3,(.rw 52 (.st ax)))],[(0,76,(.st gV))],[]⟩) .no)) .no))) [.tmp 2] (.bq tV (.bq vE .nil)) (fun z=>by kernel_rfl) (by kernel_rfl)
noncomputable def ku (a0:BJ×iL):Option (BJ×iL):=
 (((Go.Fn.aV a0.1)).bind fun r1=>
  bif r1 then ((Go.Fn.pK a0)).bind fun r2=>
  ((Go.Fn.dC r2.2 r2.1)).bind fun r3=>
  some r3
  else some a0).bind fun r4=>
 some (((0:Int),((0:Int),(([]:List (UInt8)),()))),r4.2)
noncomputable def lK:Nat×Lf.Entry:=(45,⟨[.obj 76 (.st gV) (.st gV) []],[],fun z=>ku z⟩)
theorem ui:Lf.aa Go.Proofs.Tryz.prog GG 45 lK.2:=Kx Go.Proofs.Tryz.f45 16 [dG,eX,lJ] [] [] [] (.seq (.join (.one .aM ⟨[],[(0, .ref 0 [] 0)],[],[(0,76,(.st gV))],[]⟩) .no) .no) [] (.bq fU (.bq iA (.bq uy .nil))) (fun z=>by kernel_rfl) (by kernel_rfl)
noncomputable def gI (a0:BJ×iL):Option (BJ×iL):=
 bif (decide ((0:Int)<(((Lf.Jy a0.2.2.2.2.2.2.1):Nat):Int))) then none
 else ((Go.Fn.iw a0.2.2.2.2.2.2.2.1 (Go.IntKind.wrap .i64 (a0.2.2.2.1 - a0.2.2.2.2.1)))).bind fun r1=>
 (bif (decide (((((List.length r1.1):Nat):Int):Int)=(0:Int))) then ((Go.Fn.ku (a0.1,((Lf.u2 a0.2.1 ((Go.IntKind.wrap .i64 (a0.2.1.2.2.1 - (1:Int))),a0.2.1.2.2.2)),a0.2.2)))).bind fun r2=>
  some r2
  else some (a0.1,((Lf.u2 a0.2.1 ((Go.IntKind.wrap .i64 (a0.2.1.2.2.1 - (1:Int))),a0.2.1.2.2.2)),a0.2.2))).bind fun r3=>
 (Lf.aG (σ:=(Int)×(BJ×iL)) (κ:=BJ×iL) (fun z4=>
   bif (decide (z4.1<(((List.length r1.1):Nat):Int))) then ((Go.Fn.aV z4.2.1)).bind fun r5=>
   bif r5 then none
   else ((Go.Fn.iQ ([]:List ae) z4.2.2.2.2.2.1)).bind fun r6=>
   ((Lf.idx r1.1 z4.1)).bind fun r7=>
   ((Lf.app (48:Nat) r6 r7)).bind fun r8=>
   ((Go.Fn.dC z4.2 r8)).bind fun r9=>
   some (.inl ((Go.IntKind.wrap .i64 (z4.1+(1:Int))),r9))
   else some (.inr z4.2)) ((0:Int),r3):Option (BJ×iL)).bind fun r10=>
 some r10
noncomputable def lI:Nat×Lf.Entry:=(44,⟨[.obj 76 (.st gV) (.st gV) []],[],fun z=>gI z⟩)
theorem uB:Lf.aa Go.Proofs.Tryz.prog GG 44 lI.2:=Kx Go.Proofs.Tryz.f44 93 [dG,eX,lK,xK,mR] [5,31,80] [] [(5,(.rw 52 (.st ax))),(31,fK),(80,(.rw 52 (.st ax))),(4000085,(.dead 80 (.rw 52 (.st ax)))),(6000037, .bool),(6000073, .bool)] (.seq .no (.seq (.seq .no (.cnd (.seq (.opn 999999 .no) .no) .no)) (.seq (.jg 17) (.seq (.join (.one .aM ⟨[2],[(0, .ref 0 [] 0)],[],[(0,76,(.st gV))],[]⟩) .no) (.seq .no (.loop ⟨[2,63],[(0, .ref 0 [] 0)],[(64,(.int .i64))],[(0,76,(.st gV))],[]⟩ (.one (.ext 0) ⟨[],[(0, .ref 0 [] 0)],[],[(0,76,(.st gV))],[]⟩) (.seq .no (.seq .no (.seq (.seq .no (.seq .no (.seq (.seq .no (.cnd (.seq (.opn 999999 .no) .no) .no)) (.LB 11 85 5)))) .no))))))))) [] (.bq fU (.bq iA (.bq ui (.bq Ep (.bq tV .nil))))) (fun z=>by kernel_rfl) (by kernel_rfl)
noncomputable def eu (a0:BJ×iL) (a1:(Int)×((Int)×((List (UInt8))×((List (Int))×(Unit))))) (a2:Int):Option (BJ×iL):=
 bif (decide ((a1.1:Int)=(8:Int))) then ((bif (decide ((a2:Int)=(9:Int))) then ((Go.Fn.aV a0.1)).bind fun r1=>
   bif (!r1) then some ((decide (((((Lf.Jy a0.2.2.2.2.2.2.1):Nat):Int):Int)=(0:Int))),(a0,a1))
   else some (false,(a0,a1))
   else some (false,(a0,a1))).bind fun r2=>
  bif r2.1 then ((Go.Fn.dC r2.2.1 ([]:List ae))).bind fun r3=>
  some (r3,r2.2.2)
  else some r2.2).bind fun r4=>
 ((Go.Fn.dO (Lf.u7 r4.1 (([]:List ae),r4.1.2.2.2.2.2.2.2.2)) r4.2.2.1)).bind fun r5=>
 ((Go.Fn.eF r5.2 r5.1 (0:Int))).bind fun r6=>
 some r6
 else bif (decide ((a1.1:Int)=(1:Int))) then ((Go.Fn.qK a1.2.2.1)).bind fun r7=>
 (Lf.aG (σ:=(Int)×(BJ×iL)) (κ:=BJ×iL) (fun z8=>
   bif (decide (z8.1<(((List.length r7):Nat):Int))) then ((Lf.idx r7 z8.1)).bind fun r9=>
   ((Go.Fn.aS z8.2.2.1)).bind fun r10=>
   ((Lf.app (48:Nat) z8.2.2.2.2.2.2.2.2.1 ((r9.1,(r9.2.2.1,(r10,(z8.2.2.2.2.2.2.2.2.2.1,()))))::([]:List ae)))).bind fun r11=>
   some (.inl ((Go.IntKind.wrap .i64 (z8.1+(1:Int))),(Lf.u7 z8.2 (r11,z8.2.2.2.2.2.2.2.2.2))))
   else some (.inr z8.2)) ((0:Int),a0):Option (BJ×iL)).bind fun r12=>
 some r12
 else bif (decide ((a1.1:Int)=(6:Int))) then ((Go.Fn.aS a0.2.1)).bind fun r13=>
 ((Lf.app (48:Nat) a0.2.2.2.2.2.2.2.1 ((((9:UInt8)::([]:List (UInt8))),((1:Int),(r13,(a0.2.2.2.2.2.2.2.2.1,()))))::([]:List ae)))).bind fun r14=>
 some (Lf.u7 a0 (r14,a0.2.2.2.2.2.2.2.2))
 else bif (decide ((a1.1:Int)=(7:Int))) then ((Go.Fn.aS a0.2.1)).bind fun r15=>
 ((Lf.app (48:Nat) a0.2.2.2.2.2.2.2.1 ((((10:UInt8)::([]:List (UInt8))),((1:Int),(r15,(a0.2.2.2.2.2.2.2.2.1,()))))::([]:List ae)))).bind fun r16=>
 some (Lf.u7 a0 (r16,a0.2.2.2.2.2.2.2.2))
 else bif (decide ((a1.1:Int)=(2:Int))) then ((Go.Fn.dO a0 a1.2.1)).bind fun r17=>
 ((Go.Fn.eF r17.2 r17.1 (0:Int))).bind fun r18=>
 some r18
 else (bif (decide ((a1.1:Int)=(3:Int))) then some ((decide ((a1.1:Int)=(3:Int))),(a0,a1))
  else some ((decide ((a1.1:Int)=(4:Int))),(a0,a1))).bind fun r19=>
 bif r19.1 then (bif (decide ((r19.2.2.1:Int)=(4:Int))) then some ((1:Int),r19.2)
  else some ((0:Int),r19.2)).bind fun r20=>
 ((Lf.app (16:Nat) r20.2.1.2.2.2.2.2.2.2.2.2.1.2.2.1 ((r20.1,(r20.2.2.2.1,()))::([]:List ((Int)×((Int)×(Unit))))))).bind fun r21=>
 ((Go.Fn.aS r20.2.1.2.1)).bind fun r22=>
 ((Go.Fn.eF (Lf.u8 r20.2.1 ((((List.length r21):Nat):Int),((Lf.u2 r20.2.1.2.2.2.2.2.2.2.2.2.1 (r21,r20.2.1.2.2.2.2.2.2.2.2.2.1.2.2.2)),r20.2.1.2.2.2.2.2.2.2.2.2.2))) r22 (1:Int))).bind fun r23=>
 some r23
 else bif (decide ((a1.1:Int)=(5:Int))) then ((Lf.lG (32:Nat) (Go.IntKind.wrap .i64 (r19.2.1.2.1.2.2.1 - (1:Int))))).bind fun r24=>
 ((Lf.nth (Lf.kD (.int .i64) (32:Nat) r19.2.1.2.1.2.1) r24)).bind fun r25=>
 bif (decide ((r25:Int)=(1:Int))) then some (r19.2.1.1,((Lf.u2 r19.2.1.2.1 ((Go.IntKind.wrap .i64 (r19.2.1.2.1.2.2.1 - (1:Int))),r19.2.1.2.1.2.2.2)),(Lf.u6 r19.2.1.2.2 ((0:Int),r19.2.1.2.2.2.2.2.2.2.2.2))))
 else some (r19.2.1.1,((Lf.u2 r19.2.1.2.1 ((Go.IntKind.wrap .i64 (r19.2.1.2.1.2.2.1 - (1:Int))),r19.2.1.2.1.2.2.2)),r19.2.1.2.2))
 else bif (decide ((a1.1:Int)=(9:Int))) then ((Go.Fn.gI r19.2.1)).bind fun r26=>
 some r26
 else bif (decide ((a1.1:Int)=(10:Int))) then none
 else bif (decide ((a1.1:Int)=(11:Int))) then none
 else bif (decide ((a1.1:Int)=(12:Int))) then none
 else bif (decide ((a1.1:Int)=(13:Int))) then none
 else bif (decide ((a1.1:Int)=(14:Int))) then none
 else some r19.2.1
noncomputable def nL:Nat×Lf.Entry:=(19,⟨[.obj 76 (.st gV) (.st gV) [], .val (.st dY), .val (.int .i64)],[],fun z=>eu z.1 z.2.1 z.2.2⟩)
theorem vz:Lf.aa Go.Proofs.Tryz.prog GG 19 nL.2:=Kx Go.Proofs.Tryz.f19 252 [dG,eX,nC,kH,yc,jq,lI] [59,84,104,139,204] [] [(59,(.rw 52 (.st ax))),(84,(.rw 52 (.st ax))),(104,(.rw 52 (.st ax))),(139,(.rw 113 (.st bM))),(204,(.rw 133 eY)),(6000198, .bool),(6000218, .bool),(6000224, .bool),(6000240, .bool),(6000250, .bool)] (.seq .no (.seq .no (.seq .no (.cnd (.seq (.join (.one .aM ⟨[],[(0, .ref 0 [] 0),(4, .ref 4 [] 0)],[],[(0,76,(.st gV)),(4,44,(.st dY))],[]⟩) (.seq (.join (.one .aM ⟨[],[(0, .ref 0 [] 0),(4, .ref 4 [] 0)],[(31, .bool)],[(0,76,(.st gV)),(4,44,(.st dY))],[]⟩) .no) .no)) (.seq .no (.jg 4))) (.seq .no (.cnd (.seq .no (.loop ⟨[49,50],[(0, .ref 0 [] 0)],[(51,(.int .i64))],[(0,76,(.st gV))],[]⟩ (.one (.ext 1) ⟨[],[(0, .ref 0 [] 0)],[],[(0,76,(.st gV))],[]⟩) (.seq .no (.seq .no (.seq (.seq .no (.jg 19)) .no))))) (.seq .no (.cnd (.jg 15) (.seq .no (.cnd (.jg 15) (.seq .no (.cnd (.jg 4) (.seq (.join (.one .aM ⟨[12],[(0, .ref 0 [] 0),(4, .ref 4 [] 0)],[(128, .bool)],[(0,76,(.st gV)),(4,44,(.st dY))],[]⟩) .no) (.cnd (.seq .no (.seq (.join (.one .aM ⟨[],[(0, .ref 0 [] 0),(4, .ref 4 [] 0)],[(8,(.int .i64))],[(0,76,(.st gV)),(4,44,(.st dY))],[]⟩) .no) (.seq (.jg 11) (.seq .no (.draw 7))))) (.seq .no (.cnd (.seq .no (.seq (.draw 12) .no)) (.seq .no (.cnd .no (.seq .no (.cnd (.seq (.opn 999999 .no) .no) (.seq .no (.cnd (.opn 999999 .no) (.seq .no (.cnd (.seq (.opn 999999 .no) .no) (.seq .no (.cnd (.seq (.opn 999999 .no) .no) (.seq .no (.cnd (.opn 999999 .no) .no)))))))))))))))))))))))))))) [] (.bq fU (.bq iA (.bq vD (.bq sH (.bq Em (.bq nQ (.bq uB .nil))))))) (fun z=>by kernel_rfl) (by kernel_rfl)
end Go.Fn
open Go Go.Lf
set_option maxRecDepth 10000
namespace Go.Fn
noncomputable def kF (a0:List eQ) (a1:List ((Int)×((Int)×((List (UInt8))×((List (Int))×(Unit)))))) (a2:Int) (a3:Int):Option (iI×(Int)):=
 (bif (!(decide (a3<(10:Int)))) then some ((decide ((200:Int)<a3)),(([]:List (List ae)),(([]:List eB),(([]:List ((Int)×((Int)×(Unit)))),(false,())))))
  else some (true,(([]:List (List ae)),(([]:List eB),(([]:List ((Int)×((Int)×(Unit)))),(false,())))))).bind fun r1=>
 bif r1.1 then some ((([]:List (List ae)),(([]:List eB),(([]:List ((Int)×((Int)×(Unit)))),(false,())))),(1:Int))
 else ((Go.Fn.bE a0)).bind fun r2=>
 bif (decide ((r2.2:Int)≠(0:Int))) then some ((([]:List (List ae)),(([]:List eB),(([]:List ((Int)×((Int)×(Unit)))),(false,())))),r2.2)
 else ((Go.Fn.zh a1 (((List.length a0):Nat):Int) a2)).bind fun r3=>
 bif (decide ((r3.2:Int)≠(0:Int))) then some ((([]:List (List ae)),(([]:List eB),(([]:List ((Int)×((Int)×(Unit)))),(false,())))),r3.2)
 else bif (decide ((1000:Int)<a2)) then some ((([]:List (List ae)),(([]:List eB),(([]:List ((Int)×((Int)×(Unit)))),(false,())))),(2:Int))
 else (Lf.aG (σ:=(Int)×(Fb×iI)) (κ:=Fb×iI) (fun z4=>
   bif (decide (z4.1<(((List.length a0):Nat):Int))) then ((Lf.idx a0 z4.1)).bind fun r5=>
   ((Go.Fn.ig a0 r5.1)).bind fun r6=>
   ((Lf.app (24:Nat) z4.2.1.2.2.1 (r6.1::([]:List ((Int)×((Int)×((Int)×(Unit)))))))).bind fun r7=>
   some (.inl ((Go.IntKind.wrap .i64 (z4.1+(1:Int))),((Lf.u2 z4.2.1 (r7,z4.2.1.2.2.2)),z4.2.2)))
   else some (.inr z4.2)) ((0:Int),((((0:Int),((0:Int),(([]:List (UInt8)),()))),(((((0:Int),((0:Int),())),(((0:Int),((0:Int),())),(((0:Int),((0:Int),())),(((0:Int),((0:Int),())),(((0:Int),((0:Int),())),(((0:Int),((0:Int),())),(((0:Int),((0:Int),())),(((0:Int),((0:Int),())),(((0:Int),((0:Int),())),(((0:Int),((0:Int),())),(((0:Int),((0:Int),())),(((0:Int),((0:Int),())),(((0:Int),((0:Int),())),(((0:Int),((0:Int),())),(((0:Int),((0:Int),())),(((0:Int),((0:Int),())),(((0:Int),((0:Int),())),(((0:Int),((0:Int),())),(((0:Int),((0:Int),())),(((0:Int),((0:Int),())),(((0:Int),((0:Int),())),(((0:Int),((0:Int),())),(((0:Int),((0:Int),())),(((0:Int),((0:Int),())),(((0:Int),((0:Int),())),(((0:Int),((0:Int),())),(((0:Int),((0:Int),())),(((0:Int),((0:Int),())),(((0:Int),((0:Int),())),(((0:Int),((0:Int),())),(((0:Int),((0:Int),())),(((0:Int),((0:Int),())),())))))))))))))))))))))))))))))))),(((0:Int),((0:Int),((0:Int),((0:Int),((0:Int),((0:Int),((0:Int),((0:Int),((0:Int),((0:Int),((0:Int),((0:Int),((0:Int),((0:Int),((0:Int),((0:Int),((0:Int),((0:Int),((0:Int),((0:Int),((0:Int),((0:Int),((0:Int),((0:Int),((0:Int),((0:Int),((0:Int),((0:Int),((0:Int),((0:Int),((0:Int),((0:Int),())))))))))))))))))))))))))))))))),((0:Int),()))),(([]:List ((Int)×((Int)×((Int)×(Unit))))),(a3,((0:Int),(([]:List ((Int)×((Int)×((Int)×(Unit))))),((none:Option ((List SV)×SV)),(([]:List ae),((0:Int),((([]:List (List ae)),(([]:List eB),(([]:List ((Int)×((Int)×(Unit)))),(false,())))),())))))))))),r1.2)):Option (Fb×iI)).bind fun r8=>
 (Lf.aG (σ:=(Int)×((Int)×(Fb×iI))) (κ:=iI×Fb) (fun z9=>
   bif (decide (z9.1<(((List.length a1):Nat):Int))) then ((Lf.idx a1 z9.1)).bind fun r10=>
   ((Go.Fn.eu z9.2.2.1 r10 z9.2.1)).bind fun r11=>
   some (.inl ((Go.IntKind.wrap .i64 (z9.1+(1:Int))),(r10.1,(r11,z9.2.2.2))))
   else some (.inr (z9.2.2.2,z9.2.2.1))) ((0:Int),((0:Int),r8)):Option (iI×Fb)).bind fun r12=>
 ((Go.Fn.lM r12.2.2.2.2.2.2.2.2.2.2.1.1)).bind fun r13=>
 some ((r12.2.2.2.2.2.2.2.2.2.2.1.1,(r13,r12.2.2.2.2.2.2.2.2.2.2.1.2.2)),(0:Int))
noncomputable def mY:Nat×Lf.Entry:=(6,⟨[.val (.sl (.st (.pr .str UX))), .val (.sl (.st dY)), .val (.int .i64), .val (.int .i64)],[(.st bJ),(.int .i64)],fun z=>kF z.1 z.2.1 z.2.2.1 z.2.2.2⟩)
theorem tQ:Lf.aa Go.Proofs.Tryz.prog GG 6 mY.2:=Kx Go.Proofs.Tryz.f6 107 [oI,qH,AU,vN,nL] [29,38,73] [] [(54,Jh),(73,(.rw 78 eY))] (.seq .no (.seq (.seq (.join (.one .aM ⟨[0,1,3,2],[(8, .ref 8 [] 0)],[(27, .bool)],[(8,30,(.st bJ))],[]⟩) .no) .no) (.seq .no (.seq .no (.seq .no (.seq .no (.seq (.seq .no (.loop ⟨[0,56,1,57],[(14, .ref 55 [] 0),(8, .ref 8 [] 0)],[(58,(.int .i64))],[(55,76,Jh),(8,30,(.st bJ))],[]⟩ (.one (.ext 0) ⟨[1],[(14, .ref 55 [] 0),(8, .ref 8 [] 0)],[],[(55,76,Jh),(8,30,(.st bJ))],[]⟩) (.seq .no (.seq .no (.seq (.seq .no (.seq .no (.jg 7))) .no))))) (.seq .no (.seq (.seq .no (.loop ⟨[80,81],[(14, .ref 55 [] 0),(8, .ref 8 [] 0)],[(82,(.int .i64)),(19,(.int .i64))],[(55,76,Jh),(8,30,(.st bJ))],[]⟩ (.one (.ext 2) ⟨[],[(8, .ref 8 [] 0),(14, .ref 55 [] 0)],[],[(8,30,(.st bJ)),(55,76,Jh)],[]⟩) .no)) .no))))))))) [.cell 8 30, .tmp 9] (.bq uU (.bq vX (.bq Ia (.bq Dj (.bq vz .nil))))) (fun z=>by kernel_rfl) (by kernel_rfl)
noncomputable def m_  :Option (Bool):=
 ((Go.Fn.kF ([]:List eQ) (((8:Int),((-(1:Int)),(([]:List (UInt8)),(([]:List (Int)),()))))::(((1:Int),((0:Int),(((115:UInt8)::((101:UInt8)::((101:UInt8)::((32:UInt8)::((116:UInt8)::((104:UInt8)::((101:UInt8)::((32:UInt8)::([]:List (UInt8)))))))))),(([]:List (Int)),()))))::(((3:Int),((0:Int),(([]:List (UInt8)),(([]:List (Int)),()))))::(((1:Int),((0:Int),(((103:UInt8)::((111:UInt8)::((32:UInt8)::((111:UInt8)::((110:UInt8)::([]:List (UInt8))))))),(([]:List (Int)),()))))::(((5:Int),((0:Int),(([]:List (UInt8)),(([]:List (Int)),()))))::(((9:Int),((0:Int),(([]:List (UInt8)),(([]:List (Int)),()))))::([]:List ((Int)×((Int)×((List (UInt8))×((List (Int))×(Unit)))))))))))) (1:Int) (10:Int))).bind fun r1=>
 ((Go.Fn.sF r1.1)).bind fun r2=>
 (bif (!(decide ((r1.2:Int)≠(0:Int)))) then bif (!(decide (((((List.length r2):Nat):Int):Int)≠(2:Int)))) then ((Lf.idx r2 (0:Int))).bind fun r3=>
  bif (!(decide ((r3:List (UInt8))≠((115:UInt8)::((101:UInt8)::((101:UInt8)::((32:UInt8)::((116:UInt8)::((104:UInt8)::((101:UInt8)::((32:UInt8)::((103:UInt8)::((111:UInt8)::([]:List (UInt8))))))))))))))) then ((Lf.idx r2 (1:Int))).bind fun r4=>
  bif (!(decide ((r4:List (UInt8))≠((111:UInt8)::((110:UInt8)::([]:List (UInt8))))))) then bif (!(decide (((((List.length r1.1.2.1):Nat):Int):Int)≠(2:Int)))) then bif (!(decide (((((List.length r1.1.2.2.1):Nat):Int):Int)≠(1:Int)))) then ((Go.Fn.lM r1.1.1)).bind fun r5=>
  some ((decide (((((List.length r5):Nat):Int):Int)≠(2:Int))),r1.1)
  else some (true,r1.1)
  else some (true,r1.1)
  else some (true,r1.1)
  else some (true,r1.1)
  else some (true,r1.1)
  else some (true,r1.1)).bind fun r6=>
 bif r6.1 then some false
 else ((Go.Fn.CK r6.2 (1:Int) (1:Int))).bind fun r7=>
 (bif (decide ((r7.1:Int)=(1:Int))) then bif r7.2 then ((Go.Fn.Bt r6.2 r6.2)).bind fun r8=>
  bif r8 then ((Lf.idx r6.2.2.1 (0:Int))).bind fun r9=>
  bif (decide ((r9.2.1:Int)=(8:Int))) then ((Lf.idx r6.2.2.1 (0:Int))).bind fun r10=>
  some (decide ((r10.2.2.1:Int)=(2:Int)))
  else some false
  else some false
  else some false
  else some false).bind fun r11=>
 some r11
noncomputable def pE:Nat×Lf.Entry:=(4,⟨[],[.bool],fun _=>m_ ⟩)
theorem xm:Lf.aa Go.Proofs.Tryz.prog GG 4 pE.2:=Kx Go.Proofs.Tryz.f4 90 [mY,vC,oI,xY,wu] [] [] [] (.seq .no (.seq .no (.seq .no (.seq .no (.seq (.seq (.join (.one .aM ⟨[],[(2, .ref 2 [] 0)],[(58, .bool)],[(2,30,(.st bJ))],[]⟩) .no) .no) (.seq .no (.seq (.join (.one .aM ⟨[],[],[(0, .bool)],[],[]⟩) .no) .no))))))) [.tmp 0] (.bq tQ (.bq DV (.bq uU (.bq Ev (.bq DI .nil))))) (fun z=>by kernel_rfl) (by kernel_rfl)
end Go.Fn
open Go Go.Lf
set_option maxRecDepth 10000
namespace Go.Fn
noncomputable def jb (a0:(Int)×((Int)×BL)) (a1:Int) (a2:Int):Option (Bool):=
 (bif (decide ((a0.1:Int)≠(1:Int))) then bif (!(decide ((a0.2.2.1:List (UInt8))≠([]:List (UInt8))))) then bif (decide ((a0.1:Int)≠(12:Int))) then some ((decide ((0:Int)<(((List.length a0.2.2.2.1):Nat):Int))),a0)
  else some (false,a0)
  else some (true,a0)
  else bif (decide ((a0.1:Int)≠(12:Int))) then some ((decide ((0:Int)<(((List.length a0.2.2.2.1):Nat):Int))),a0)
  else some (false,a0)).bind fun r1=>
 bif r1.1 then some false
 else bif (decide ((a0.1:Int)=(1:Int))) then ((Go.Fn.jL r1.2.2.2.1)).bind fun r2=>
 (bif r2.2 then bif (decide ((r1.2.2.2.1:List (UInt8))≠([]:List (UInt8)))) then some (decide ((r1.2.2.1:Int)=(0:Int)))
  else some false
  else some false).bind fun r3=>
 some r3
 else bif (decide ((a0.1:Int)=(2:Int))) then (bif (decide ((0:Int)≤r1.2.2.1)) then some (decide (r1.2.2.1<a1))
  else some false).bind fun r4=>
 some r4
 else (bif (decide ((a0.1:Int)=(3:Int))) then some ((decide ((a0.1:Int)=(3:Int))),r1.2)
  else some ((decide ((a0.1:Int)=(4:Int))),r1.2)).bind fun r5=>
 bif r5.1 then (bif (decide ((0:Int)≤r5.2.2.1)) then some (decide (r5.2.2.1<a2))
  else some false).bind fun r6=>
 some r6
 else bif (decide ((a0.1:Int)=(8:Int))) then (bif (decide ((-(1:Int))≤r5.2.2.1)) then some (decide (r5.2.2.1<a1))
  else some false).bind fun r7=>
 some r7
 else bif (decide ((a0.1:Int)=(10:Int))) then (bif (!(decide ((r5.2.2.1:Int)=(0:Int)))) then some (decide ((r5.2.2.1:Int)=(1:Int)))
  else some true).bind fun r8=>
 some r8
 else bif (decide ((a0.1:Int)=(12:Int))) then (bif (!(decide ((r5.2.2.1:Int)≠(0:Int)))) then bif (!(decide ((((List.length r5.2.2.2.2.1):Nat):Int)<(1:Int)))) then some ((decide ((8:Int)<(((List.length r5.2.2.2.2.1):Nat):Int))),r5.2)
  else some (true,r5.2)
  else some (true,r5.2)).bind fun r9=>
 bif r9.1 then some false
 else (Lf.aG (σ:=Int) (κ:=(Unit)⊕(Bool)) (fun z10=>
   bif (decide (z10<(((List.length r9.2.2.2.2.1):Nat):Int))) then ((Lf.idx r9.2.2.2.2.1 z10)).bind fun r11=>
   (bif (!(decide (r11<(0:Int)))) then some (decide ((100:Int)<r11))
    else some true).bind fun r12=>
   bif r12 then some (.inr (.inr false))
   else some (.inl (Go.IntKind.wrap .i64 (z10+(1:Int))))
   else some (.inr (.inl ()))) (0:Int):Option ((Unit)⊕(Bool))).bind fun r13=>
 Lf.bC r13 (fun a14=>
 some true) (fun b15=>
 some b15)
 else (bif (decide ((5:Int)≤a0.1)) then bif (decide (a0.1≤(14:Int))) then some (decide ((r5.2.2.1:Int)=(0:Int)))
  else some false
  else some false).bind fun r16=>
 some r16
noncomputable def nE:Nat×Lf.Entry:=(54,⟨[.val (.st dY), .val (.int .i64), .val (.int .i64)],[.bool],fun z=>jb z.1 z.2.1 z.2.2⟩)
theorem vK:Lf.aa Go.Proofs.Tryz.prog GG 54 nE.2:=Kx Go.Proofs.Tryz.f54 137 [o_] [] [] [] (.seq .no (.seq .no (.seq (.seq (.join (.one .aM ⟨[1,2,7],[(3, .ref 3 [] 0)],[(30, .bool)],[(3,44,(.st dY))],[]⟩) .no) .no) (.seq (.seq .no (.seq .no (.cnd (.seq .no (.seq (.join (.one .aM ⟨[],[],[(6, .bool)],[],[]⟩) .no) .no)) (.seq .no (.cnd (.seq (.join (.one .aM ⟨[],[],[(6, .bool)],[],[]⟩) .no) .no) (.seq (.join (.one .aM ⟨[2,1,7,31],[(3, .ref 3 [] 0)],[(62, .bool)],[(3,44,(.st dY))],[]⟩) .no) (.cnd (.seq (.join (.one .aM ⟨[],[],[(6, .bool)],[],[]⟩) .no) .no) (.seq .no (.cnd (.seq (.join (.one .aM ⟨[],[],[(6, .bool)],[],[]⟩) .no) .no) (.seq .no (.cnd (.seq (.join (.one .aM ⟨[],[],[(6, .bool)],[],[]⟩) .no) .no) (.seq .no (.cnd (.seq (.seq (.join (.one .aM ⟨[],[(3, .ref 3 [] 0)],[(111, .bool)],[(3,44,(.st dY))],[]⟩) .no) .no) (.seq (.seq .no (.loop ⟨[113,114],[],[(115,(.int .i64))],[],[]⟩ (.more (.ext 1) ⟨[],[],[],[],[]⟩ (.one .ret ⟨[],[],[(6, .bool)],[],[]⟩)) (.seq .no (.seq .no (.seq (.seq .no (.seq (.join (.one .aM ⟨[113,114,115],[],[(124, .bool)],[],[]⟩) .no) .no)) .no))))) .no)) .no))))))))))))) (.seq (.join (.one .aM ⟨[],[],[(6, .bool)],[],[]⟩) .no) .no))))) [.tmp 6] (.bq xg .nil) (fun z=>by kernel_rfl) (by kernel_rfl)
noncomputable def cZ (a0:yC×(Unit)):Option Eo:=
 (Lf.aG (σ:=(Int)×(yC×(Unit))) (κ:=(yC×(Unit))⊕Eo) (fun z1=>
   bif (decide (z1.1<(((List.length a0.1.2.1):Nat):Int))) then ((Lf.lG (List.length z1.2.1.2.1) z1.1)).bind fun r2=>
   ((Lf.nth z1.2.1.2.1 r2)).bind fun r3=>
   bif r3 then some (.inr (.inr (true,z1.2)))
   else some (.inl ((Go.IntKind.wrap .i64 (z1.1+(1:Int))),z1.2))
   else some (.inr (.inl z1.2))) ((0:Int),a0):Option ((yC×(Unit))⊕Eo)).bind fun r4=>
 Lf.bC r4 (fun a5=>
 some (false,a5)) (fun b6=>
 some b6)
noncomputable def ib:Nat×Lf.Entry:=(114,⟨[.obj 145 (.st lH) (.st lH) [.i, .l]],[.bool],fun z=>cZ z⟩)
theorem nU:Lf.aa Go.Proofs.Tryz.prog GG 114 ib.2:=Kx Go.Proofs.Tryz.f114 16 [] [] [] [] (.seq .no (.seq (.seq .no (.loop ⟨[9],[(0, .ref 0 [.i, .l] 0),(8, .bO 0 [.i, .l, .i, .r, .l] 1)],[(10,(.int .i64))],[(0,145,(.st lH))],[]⟩ (.more (.ext 0) ⟨[],[(0, .ref 0 [.i, .l] 0)],[],[(0,145,(.st lH))],[]⟩ (.one .ret ⟨[],[(0, .ref 0 [.i, .l] 0)],[(2, .bool)],[(0,145,(.st lH))],[]⟩)) .no)) .no)) [.tmp 2] .nil (fun z=>by kernel_rfl) (by kernel_rfl)
noncomputable def fE (a0:yC×(Unit)) (a1:(Int)×((Int)×BL)):Option Eo:=
 bif (!a0.1.1) then some (false,a0)
 else (bif (decide ((a1.1:Int)=(1:Int))) then some (.inl ((!a0.1.2.2.2.1),a0))
  else (bif (decide ((a1.1:Int)=(2:Int))) then some ((decide ((a1.1:Int)=(2:Int))),a0)
   else bif (decide ((a1.1:Int)=(3:Int))) then some ((decide ((a1.1:Int)=(3:Int))),a0)
   else some ((decide ((a1.1:Int)=(4:Int))),a0)).bind fun r1=>
  bif r1.1 then (bif (!(decide ((16:Int)≤(((List.length r1.2.1.2.1):Nat):Int)))) then bif (decide ((a1.1:Int)≠(2:Int))) then ((Go.Fn.cZ r1.2)).bind fun r2=>
   some r2
   else some (false,r1.2)
   else some (true,r1.2)).bind fun r3=>
  bif r3.1 then some (.inl (false,r3.2))
  else ((Lf.app (1:Nat) r3.2.1.2.1 ((decide ((a1.1:Int)≠(2:Int)))::([]:List (Bool))))).bind fun r4=>
  some (.inr ((r3.2.1.1,(r4,r3.2.1.2.2)),r3.2.2))
  else bif (decide ((a1.1:Int)=(5:Int))) then bif (decide (((((List.length r1.2.1.2.1):Nat):Int):Int)=(0:Int))) then some (.inl (false,r1.2))
  else ((Lf.sub r1.2.1.2.1 (0:Int) (Go.IntKind.wrap .i64 ((((List.length r1.2.1.2.1):Nat):Int) - (1:Int))))).bind fun r5=>
  some (.inr ((r1.2.1.1,(r5,r1.2.1.2.2)),r1.2.2))
  else bif (decide ((a1.1:Int)=(9:Int))) then bif (decide ((0:Int)<(((List.length r1.2.1.2.1):Nat):Int))) then some (.inl (false,r1.2))
  else some (.inr ((false,r1.2.1.2),r1.2.2))
  else some (.inr r1.2):Option (Eo⊕(yC×(Unit)))).bind fun r6=>
 Lf.bC r6 (fun a7=>
 some a7) (fun b8=>
 some (true,b8))
noncomputable def g_:Nat×Lf.Entry:=(90,⟨[.obj 145 (.st lH) (.st lH) [.i, .l], .val (.st dY)],[.bool],fun z=>fE z.1 z.2⟩)
theorem nP:Lf.aa Go.Proofs.Tryz.prog GG 90 g_.2:=Kx Go.Proofs.Tryz.f90 81 [ib] [67] [] [] (.seq .no (.seq .no (.seq .no (.seq (.join (.more .ret ⟨[],[(0, .ref 0 [.i, .l] 0)],[(4, .bool)],[(0,145,(.st lH))],[]⟩ (.one .aM ⟨[],[(0, .ref 0 [.i, .l] 0)],[],[(0,145,(.st lH))],[]⟩)) (.seq .no (.seq .no (.cnd .no (.seq (.join (.one .aM ⟨[5,14],[(0, .ref 0 [.i, .l] 0)],[(22, .bool)],[(0,145,(.st lH))],[]⟩) .no) (.cnd (.seq (.seq (.join (.one .aM ⟨[5],[(0, .ref 0 [.i, .l] 0)],[(39, .bool)],[(0,145,(.st lH))],[]⟩) .no) .no) .no) .no)))))) .no)))) [.tmp 4] (.bq nU .nil) (fun z=>by kernel_rfl) (by kernel_rfl)
noncomputable def lh (a0:yC×(Unit)):Option (((Bool)×eB)×Eo):=
 bif (decide (((((List.length a0.1.2.2.1):Nat):Int):Int)=(0:Int))) then some ((false,((0:Int),((0:Int),((0:Int),((0:Int),()))))),(false,a0))
 else ((Lf.lG (List.length a0.1.2.2.1) (Go.IntKind.wrap .i64 ((((List.length a0.1.2.2.1):Nat):Int) - (1:Int))))).bind fun r1=>
 ((Lf.nth a0.1.2.2.1 r1)).bind fun r2=>
 some (r2,(true,a0))
noncomputable def jC:Nat×Lf.Entry:=(115,⟨[.obj 145 (.st lH) (.st lH) [.i, .l]],[(.st (.pr .bool kC)), .bool],fun z=>lh z⟩)
theorem qL:Lf.aa Go.Proofs.Tryz.prog GG 115 jC.2:=Kx Go.Proofs.Tryz.f115 23 [] [] [] [] (.seq .no (.seq .no (.seq (.draw 12) .no))) [.cell 2 199, .tmp 3] .nil (fun z=>by kernel_rfl) (by kernel_rfl)
noncomputable def jW (a0:yC×(Unit)) (a1:(Int)×((Int)×BL)):Option Eo:=
 bif a0.1.1 then some (false,a0)
 else ((Go.Fn.lh a0)).bind fun r1=>
 (bif (decide ((a1.1:Int)=(8:Int))) then (bif r1.2.1 then bif r1.1.1 then bif (!(decide ((r1.1.2.2.2.1:Int)=(0:Int)))) then bif (!(decide (r1.1.2.2.1≤r1.1.2.2.2.2.1))) then bif (!r1.1.1) then some ((decide ((r1.1.2.1:Int)=(0:Int))),r1.2.2)
   else some (false,r1.2.2)
   else some (true,r1.2.2)
   else some (true,r1.2.2)
   else bif (!r1.1.1) then some ((decide ((r1.1.2.1:Int)=(0:Int))),r1.2.2)
   else some (false,r1.2.2)
   else some (false,r1.2.2)).bind fun r2=>
  bif r2.1 then some (.inl (false,r2.2))
  else (bif r1.2.1 then ((Lf.lG (List.length r2.2.1.2.2.1) (Go.IntKind.wrap .i64 ((((List.length r1.2.2.1.2.2.1):Nat):Int) - (1:Int))))).bind fun r3=>
   ((Lf.nth r2.2.1.2.2.1 r3)).bind fun r4=>
   ((Lf.lG (List.length r2.2.1.2.2.1) (Go.IntKind.wrap .i64 ((((List.length r1.2.2.1.2.2.1):Nat):Int) - (1:Int))))).bind fun r5=>
   ((Lf.nth r2.2.1.2.2.1 r5)).bind fun r6=>
   some ((Lf.u2 r2.2.1 ((List.set r2.2.1.2.2.1 r5 (Lf.u4 r6 ((Go.IntKind.wrap .i64 (r4.2.2.2.2.1+(1:Int))),r6.2.2.2.2.2))),r2.2.1.2.2.2)),r2.2.2)
   else some r2.2).bind fun r7=>
  some (.inr ((true,r7.1.2),r7.2))
  else bif (decide ((a1.1:Int)=(10:Int))) then none
  else bif (decide ((a1.1:Int)=(11:Int))) then none
  else bif (decide ((a1.1:Int)=(12:Int))) then none
  else bif (decide ((a1.1:Int)=(13:Int))) then none
  else bif (decide ((a1.1:Int)=(14:Int))) then none
  else some (.inr r1.2.2):Option (Eo⊕(yC×(Unit)))).bind fun r8=>
 Lf.bC r8 (fun a9=>
 some a9) (fun b10=>
 some (true,b10))
noncomputable def iE:Nat×Lf.Entry:=(91,⟨[.obj 145 (.st lH) (.st lH) [.i, .l], .val (.st dY)],[.bool],fun z=>jW z.1 z.2⟩)
theorem oH:Lf.aa Go.Proofs.Tryz.prog GG 91 iE.2:=Kx Go.Proofs.Tryz.f91 188 [jC] [185] [] [(6000071, .bool),(6000101, .bool),(6000120, .bool),(6000136, .bool),(6000168, .bool)] (.seq .no (.seq .no (.seq .no (.seq .no (.seq (.join (.more .ret ⟨[],[(0, .ref 0 [.i, .l] 0)],[(4, .bool)],[(0,145,(.st lH))],[]⟩ (.one .aM ⟨[],[(0, .ref 0 [.i, .l] 0)],[],[(0,145,(.st lH))],[]⟩)) (.seq .no (.seq .no (.cnd (.seq (.seq (.join (.one .aM ⟨[7,6],[(0, .ref 0 [.i, .l] 0)],[(53, .bool)],[(0,145,(.st lH))],[]⟩) .no) .no) (.seq (.join (.one .aM ⟨[],[(0, .ref 0 [.i, .l] 0)],[],[(0,145,(.st lH))],[]⟩) .no) .no)) (.seq .no (.cnd (.seq (.seq (.opn 999999 .no) .no) .no) (.seq .no (.cnd (.seq (.seq (.opn 999999 .no) .no) .no) (.seq .no (.cnd (.seq (.seq (.opn 999999 .no) .no) .no) (.seq .no (.cnd (.seq (.seq (.opn 999999 .no) .no) .no) (.seq .no (.cnd (.seq (.seq (.opn 999999 .no) .no) .no) .no)))))))))))))) .no))))) [.tmp 4] (.bq qL .nil) (fun z=>by kernel_rfl) (by kernel_rfl)
noncomputable def dU (a0:yC×(Unit)) (a1:(Int)×((Int)×BL)):Option Eo:=
 ((bif (!(decide (a1.1≤(7:Int)))) then some ((decide ((a1.1:Int)=(9:Int))),(a0,a1))
   else some (true,(a0,a1))).bind fun r1=>
  bif r1.1 then ((Go.Fn.fE r1.2.1 r1.2.2)).bind fun r2=>
  some r2
  else ((Go.Fn.jW r1.2.1 r1.2.2)).bind fun r3=>
  some r3).bind fun r4=>
 some (r4.1,((Lf.u3 r4.2.1 ((decide ((a1.1:Int)=(1:Int))),r4.2.1.2.2.2.2)),r4.2.2))
noncomputable def jc:Nat×Lf.Entry:=(55,⟨[.obj 145 (.st lH) (.st lH) [], .val (.st dY)],[.bool],fun z=>dU z.1 z.2⟩)
theorem qh:Lf.aa Go.Proofs.Tryz.prog GG 55 jc.2:=Kx Go.Proofs.Tryz.f55 32 [g_,iE] [] [] [] (.seq .no (.seq .no (.seq .no (.seq (.join (.one .aM ⟨[5],[(0, .ref 0 [] 0)],[(6, .bool)],[(0,145,(.st lH))],[]⟩) (.seq (.join (.one .aM ⟨[5],[(0, .ref 0 [] 0),(3, .ref 3 [] 0)],[(14, .bool)],[(0,145,(.st lH)),(3,44,(.st dY))],[]⟩) .no) (.cnd (.draw 4) (.draw 4)))) .no)))) [.tmp 4] (.bq nP (.bq oH .nil)) (fun z=>by kernel_rfl) (by kernel_rfl)
noncomputable def gG (a0:yC×(Unit)):Option Eo:=
 (bif (!a0.1.1) then some ((decide (((((List.length a0.1.2.2.1):Nat):Int):Int)=(0:Int))),a0)
  else some (false,a0)).bind fun r1=>
 some r1
noncomputable def jd:Nat×Lf.Entry:=(56,⟨[.obj 145 (.st lH) (.st lH) []],[.bool],fun z=>gG z⟩)
theorem qc:Lf.aa Go.Proofs.Tryz.prog GG 56 jd.2:=Kx Go.Proofs.Tryz.f56 18 [] [] [] [] (.seq .no (.seq (.join (.one .aM ⟨[],[(0, .ref 0 [] 0)],[(2, .bool)],[(0,145,(.st lH))],[]⟩) .no) .no)) [.tmp 2] .nil (fun z=>by kernel_rfl) (by kernel_rfl)
noncomputable def jI (a0:List ((Int)×((Int)×BL))) (a1:Int) (a2:Int):Option ((Int)×(Int)):=
 (Lf.aG (σ:=(Int)×(Int)) (κ:=Int) (fun z1=>
   bif (decide (z1.1<(((List.length a0):Nat):Int))) then ((Lf.idx a0 z1.1)).bind fun r2=>
   some (.inl ((Go.IntKind.wrap .i64 (z1.1+(1:Int))),(Go.IntKind.wrap .i64 (z1.2+(((List.length r2.2.2.1):Nat):Int)))))
   else some (.inr z1.2)) ((0:Int),(0:Int)):Option (Int)).bind fun r3=>
 (bif (!(decide ((65536:Int)<(((List.length a0):Nat):Int)))) then some (decide ((16384:Int)<r3))
  else some true).bind fun r4=>
 bif r4 then some ((0:Int),(2:Int))
 else (Lf.aG (σ:=(Int)×(yC×(Unit))) (κ:=(yC×(Unit))⊕((Int)×(Int))) (fun z5=>
   bif (decide (z5.1<(((List.length a0):Nat):Int))) then ((Lf.idx a0 z5.1)).bind fun r6=>
   (((Go.Fn.jb r6 a1 a2)).bind fun r7=>
    bif (!(!r7)) then ((Go.Fn.dU z5.2 r6)).bind fun r8=>
    some ((!r8.1),r8.2)
    else some (true,z5.2)).bind fun r9=>
   bif r9.1 then some (.inr (.inr (z5.1,(110:Int))))
   else some (.inl ((Go.IntKind.wrap .i64 (z5.1+(1:Int))),r9.2))
   else some (.inr (.inl z5.2))) ((0:Int),((false,(([]:List (Bool)),(([]:List ((Bool)×eB)),(false,())))),())):Option ((yC×(Unit))⊕((Int)×(Int)))).bind fun r10=>
 Lf.bC r10 (fun a11=>
 ((Go.Fn.gG a11)).bind fun r12=>
 bif (!r12.1) then some ((((List.length a0):Nat):Int),(110:Int))
 else some ((0:Int),(0:Int))) (fun b13=>
 some b13)
noncomputable def o7:Nat×Lf.Entry:=(21,⟨[.val (.sl (.st dY)), .val (.int .i64), .val (.int .i64)],[(.int .i64),(.int .i64)],fun z=>jI z.1 z.2.1 z.2.2⟩)
theorem xy:Lf.aa Go.Proofs.Tryz.prog GG 21 o7.2:=Kx Go.Proofs.Tryz.f21 60 [nE,jc,jd] [] [] [(33,(.st lH))] (.seq .no (.seq .no (.seq (.seq .no (.loop ⟨[14,2,1,0,15],[],[(16,(.int .i64)),(8,(.int .i64))],[],[]⟩ (.one (.ext 0) ⟨[2,1,0],[],[(8,(.int .i64))],[],[]⟩) .no)) (.seq (.seq (.join (.one .aM ⟨[2,1,0],[],[(32, .bool)],[],[]⟩) .no) .no) (.seq .no (.seq (.seq .no (.loop ⟨[2,1,35,0,36],[(11, .ref 34 [] 0)],[(37,(.int .i64))],[(34,145,(.st lH))],[]⟩ (.more (.ext 2) ⟨[0],[(11, .ref 34 [] 0)],[],[(34,145,(.st lH))],[]⟩ (.one .ret ⟨[],[],[(6,(.int .i64)),(7,(.int .i64))],[],[]⟩)) (.seq .no (.seq .no (.seq (.seq .no (.seq (.join (.one .aM ⟨[12,2,1,35,0,36,37],[(11, .ref 34 [] 0)],[(52, .bool)],[(34,145,(.st lH))],[]⟩) .no) .no)) .no))))) .no)))))) [.tmp 6, .tmp 7] (.bq vK (.bq qh (.bq qc .nil))) (fun z=>by kernel_rfl) (by kernel_rfl)
end Go.Fn
open Go Go.Lf
set_option maxRecDepth 10000
namespace Go.Fn
noncomputable def kI (a0:List (UInt8)):Option (Bool):=
 (Lf.aG (σ:=Int) (κ:=(Unit)⊕(Bool)) (fun z1=>
   bif (decide (z1<(((List.length a0):Nat):Int))) then (((Lf.idx a0 z1)).bind fun r2=>
    bif (!(decide ((((UInt8.toNat r2):Nat):Int)<(97:Int)))) then ((Lf.idx a0 z1)).bind fun r3=>
    some (decide ((122:Int)<(((UInt8.toNat r3):Nat):Int)))
    else some true).bind fun r4=>
   bif r4 then some (.inr (.inr false))
   else some (.inl (Go.IntKind.wrap .i64 (z1+(1:Int))))
   else some (.inr (.inl ()))) (0:Int):Option ((Unit)⊕(Bool))).bind fun r5=>
 Lf.bC r5 (fun a6=>
 (bif (decide ((1:Int)≤(((List.length a0):Nat):Int))) then some (decide ((((List.length a0):Nat):Int)≤(12:Int)))
  else some false).bind fun r7=>
 some r7) (fun b8=>
 some b8)
noncomputable def rz:Nat×Lf.Entry:=(50,⟨[.val .str],[.bool],fun z=>kI z⟩)
theorem yA:Lf.aa Go.Proofs.Tryz.prog GG 50 rz.2:=Kx Go.Proofs.Tryz.f50 28 [] [] [] [] (.seq .no (.seq (.seq .no (.loop ⟨[0],[],[(3,(.int .i64))],[],[]⟩ (.more (.ext 0) ⟨[0],[],[],[],[]⟩ (.one .ret ⟨[],[],[(2, .bool)],[],[]⟩)) (.seq .no (.seq (.seq (.join (.one .aM ⟨[0,3],[],[(19, .bool)],[],[]⟩) .no) .no) .no)))) (.seq (.join (.one .aM ⟨[],[],[(2, .bool)],[],[]⟩) .no) .no))) [.tmp 2] .nil (fun z=>by kernel_rfl) (by kernel_rfl)
noncomputable def dF (a0:List eQ) (a1:List (UInt8)):Option ((Int)×(Bool)):=
 (Lf.aG (σ:=Int) (κ:=(Unit)⊕((Int)×(Bool))) (fun z1=>
   bif (decide (z1<(((List.length a0):Nat):Int))) then ((Lf.idx a0 z1)).bind fun r2=>
   bif (decide ((r2.1:List (UInt8))=a1)) then some (.inr (.inr (z1,true)))
   else some (.inl (Go.IntKind.wrap .i64 (z1+(1:Int))))
   else some (.inr (.inl ()))) (0:Int):Option ((Unit)⊕((Int)×(Bool)))).bind fun r3=>
 Lf.bC r3 (fun a4=>
 some ((0:Int),false)) (fun b5=>
 some b5)
noncomputable def fD:Nat×Lf.Entry:=(51,⟨[.val l_, .val .str],[(.int .i64), .bool],fun z=>dF z.1 z.2⟩)
theorem iq:Lf.aa Go.Proofs.Tryz.prog GG 51 fD.2:=Kx Go.Proofs.Tryz.f51 21 [] [] [] [] (.seq .no (.seq (.seq .no (.loop ⟨[1,0],[],[(6,(.int .i64))],[],[]⟩ (.more (.ext 0) ⟨[],[],[],[],[]⟩ (.one .ret ⟨[],[],[(4,(.int .i64)),(5, .bool)],[],[]⟩)) .no)) .no)) [.tmp 4, .tmp 5] .nil (fun z=>by kernel_rfl) (by kernel_rfl)
noncomputable def l6 (a0:(Int)×((Int)×((Int)×(Unit)))):Option (Int):=
 (bif (!(decide (a0.1<(0:Int)))) then bif (!(decide (a0.2.1<(0:Int)))) then bif (!(decide ((127:Int)<a0.1))) then bif (!(decide ((127:Int)<a0.2.1))) then some ((decide (((Lf.bits .and .i64 a0.1 a0.2.1):Int)≠(0:Int))),a0)
  else some (true,a0)
  else some (true,a0)
  else some (true,a0)
  else some (true,a0)).bind fun r1=>
 bif r1.1 then some (62:Int)
 else (bif (!(decide (r1.2.2.2.1<(-(1:Int))))) then some (decide ((15:Int)<r1.2.2.2.1))
  else some true).bind fun r2=>
 bif r2 then some (63:Int)
 else some (0:Int)
noncomputable def sw:Nat×Lf.Entry:=(52,⟨[.val eY],[(.int .i64)],fun z=>l6 z⟩)
theorem y5:Lf.aa Go.Proofs.Tryz.prog GG 52 sw.2:=Kx Go.Proofs.Tryz.f52 37 [] [] [] [] (.seq .no (.seq (.seq (.join (.one .aM ⟨[],[(1, .ref 1 [] 0)],[(28, .bool)],[(1,78,eY)],[]⟩) .no) .no) (.seq (.seq (.join (.one .aM ⟨[],[],[(36, .bool)],[],[]⟩) .no) .no) .no))) [.tmp 2] .nil (fun z=>by kernel_rfl) (by kernel_rfl)
noncomputable def jM (a0:List eQ) (a1:Int):Option (Int):=
 (Lf.aG (σ:=(Int)×(Int)) (κ:=(Unit)⊕(Int)) (fun z1=>
   ((Lf.idx a0 z1.2)).bind fun r2=>
   bif (decide ((r2.2.1:List (UInt8))≠([]:List (UInt8)))) then ((Lf.idx a0 z1.2)).bind fun r3=>
   ((Go.Fn.dF a0 r3.2.1)).bind fun r4=>
   bif (!r4.2) then bif (decide ((z1.1:Int)=(1:Int))) then some (.inr (.inr (64:Int)))
   else some (.inr (.inr (0:Int)))
   else bif (decide ((8:Int)<(Go.IntKind.wrap .i64 (z1.1+(1:Int))))) then some (.inr (.inr (65:Int)))
   else some (.inl ((Go.IntKind.wrap .i64 (z1.1+(1:Int))),r4.1))
   else some (.inr (.inl ()))) ((1:Int),a1):Option ((Unit)⊕(Int))).bind fun r5=>
 Lf.bC r5 (fun a6=>
 some (0:Int)) (fun b7=>
 some b7)
noncomputable def pJ:Nat×Lf.Entry:=(53,⟨[.val l_, .val (.int .i64)],[(.int .i64)],fun z=>jM z.1 z.2⟩)
theorem xc:Lf.aa Go.Proofs.Tryz.prog GG 53 pJ.2:=Kx Go.Proofs.Tryz.f53 33 [fD] [] [] [] (.seq .no (.seq .no (.seq (.loop ⟨[0],[],[(5,(.int .i64)),(1,(.int .i64))],[],[]⟩ (.more (.ext 0) ⟨[],[],[],[],[]⟩ (.one .ret ⟨[],[],[(4,(.int .i64))],[],[]⟩)) .no) .no))) [.tmp 4] (.bq iq .nil) (fun z=>by kernel_rfl) (by kernel_rfl)
noncomputable def gU (a0:List eQ):Option ((Int)×(Int)):=
 bif (decide ((64:Int)<(((List.length a0):Nat):Int))) then some ((0:Int),(2:Int))
 else (Lf.aG (σ:=Int) (κ:=(Unit)⊕((Int)×(Int))) (fun z1=>
   bif (decide (z1<(((List.length a0):Nat):Int))) then ((Lf.idx a0 z1)).bind fun r2=>
   ((Go.Fn.kI r2.1)).bind fun r3=>
   bif (!r3) then some (.inr (.inr (z1,(60:Int))))
   else ((Lf.idx a0 z1)).bind fun r4=>
   ((Go.Fn.dF a0 r4.1)).bind fun r5=>
   bif (decide (r5.1<z1)) then some (.inr (.inr (z1,(61:Int))))
   else ((Lf.idx a0 z1)).bind fun r6=>
   ((Go.Fn.l6 r6.2.2.1)).bind fun r7=>
   bif (decide ((r7:Int)≠(0:Int))) then some (.inr (.inr (z1,r7)))
   else some (.inl (Go.IntKind.wrap .i64 (z1+(1:Int))))
   else some (.inr (.inl ()))) (0:Int):Option ((Unit)⊕((Int)×(Int)))).bind fun r8=>
 Lf.bC r8 (fun a9=>
 (Lf.aG (σ:=Int) (κ:=(Unit)⊕((Int)×(Int))) (fun z10=>
   bif (decide (z10<(((List.length a0):Nat):Int))) then ((Go.Fn.jM a0 z10)).bind fun r11=>
   bif (decide ((r11:Int)≠(0:Int))) then some (.inr (.inr (z10,r11)))
   else some (.inl (Go.IntKind.wrap .i64 (z10+(1:Int))))
   else some (.inr (.inl ()))) (0:Int):Option ((Unit)⊕((Int)×(Int)))).bind fun r12=>
 Lf.bC r12 (fun a13=>
 some ((0:Int),(0:Int))) (fun b14=>
 some b14)) (fun b15=>
 some b15)
noncomputable def jY:Nat×Lf.Entry:=(20,⟨[.val l_],[(.int .i64),(.int .i64)],fun z=>gU z⟩)
theorem pQ:Lf.aa Go.Proofs.Tryz.prog GG 20 jY.2:=Kx Go.Proofs.Tryz.f20 64 [rz,fD,sw,pJ] [] [] [] (.seq .no (.seq .no (.seq (.seq .no (.loop ⟨[0],[],[(4,(.int .i64))],[],[]⟩ (.more (.ext 0) ⟨[0],[],[],[],[]⟩ (.one .ret ⟨[],[],[(2,(.int .i64)),(3,(.int .i64))],[],[]⟩)) .no)) (.seq (.seq .no (.loop ⟨[0],[],[(8,(.int .i64))],[],[]⟩ (.more (.ext 2) ⟨[],[],[],[],[]⟩ (.one .ret ⟨[],[],[(2,(.int .i64)),(3,(.int .i64))],[],[]⟩)) .no)) .no)))) [.tmp 2, .tmp 3] (.bq yA (.bq iq (.bq y5 (.bq xc .nil)))) (fun z=>by kernel_rfl) (by kernel_rfl)
noncomputable def oo  :Option ((Int)×((Int)×((Int)×(Unit)))):=
 some ((0:Int),((0:Int),((-(1:Int)),())))
noncomputable def qJ:Nat×Lf.Entry:=(96,⟨[],[eY],fun _=>oo ⟩)
theorem yJ:Lf.aa Go.Proofs.Tryz.prog GG 96 qJ.2:=Kx Go.Proofs.Tryz.f96 2 [] [] [] [] .no [.cell 0 78] .nil (fun z=>by kernel_rfl) (by kernel_rfl)
noncomputable def kR (a0:(Int)×((Int)×((Int)×(Unit)))) (a1:(Int)×((Int)×((Int)×(Unit)))):Option ((Int)×((Int)×((Int)×(Unit)))):=
 (bif (decide ((a1.2.2.1:Int)≠(-(1:Int)))) then some (((0:Int),((0:Int),((0:Int),()))),((Lf.bits .or .i64 (Lf.bits .andNot .i64 a0.1 a1.2.1) a1.1),((Lf.bits .or .i64 (Lf.bits .andNot .i64 a0.2.1 a1.1) a1.2.1),(a1.2.2.1,a0.2.2.2))))
  else some (((0:Int),((0:Int),((0:Int),()))),((Lf.bits .or .i64 (Lf.bits .andNot .i64 a0.1 a1.2.1) a1.1),((Lf.bits .or .i64 (Lf.bits .andNot .i64 a0.2.1 a1.1) a1.2.1),a0.2.2)))).bind fun r1=>
 some r1.2
noncomputable def qV:Nat×Lf.Entry:=(97,⟨[.val eY, .val eY],[eY],fun z=>kR z.1 z.2⟩)
theorem yh:Lf.aa Go.Proofs.Tryz.prog GG 97 qV.2:=Kx Go.Proofs.Tryz.f97 32 [] [] [] [] (.seq .no (.seq .no (.seq (.join (.one .aM ⟨[],[(4, .ref 4 [] 0),(5, .ref 5 [] 0)],[],[(4,78,eY),(5,78,eY)],[]⟩) .no) .no))) [.cell 4 78] .nil (fun z=>by kernel_rfl) (by kernel_rfl)
noncomputable def pg (self:(List eQ)×(Int)→Option ((Int)×((Int)×((Int)×(Unit))))):Lf.Ctx:=⟨35,NP,[fD,(69,⟨[.val l_, .val (.int .i64)],[eY],self⟩),qJ,qV],[],[],[],[],uN,[],some 4611686018427387904,uK,[]⟩
noncomputable def n_:Go.Code:=(Go.Proofs.Tryz.f69.body).getD .skip
def pG:Lf.qZ:=(.seq .no (.seq .no (.seq (.join (.one .aM ⟨[1,0],[(4, .ref 4 [] 0),(5, .ref 5 [] 0)],[],[(4,78,eY),(5,78,eY)],[]⟩) .no) (.seq (.draw 7) .no))))
noncomputable def lN (self:(List eQ)×(Int)→Option ((Int)×((Int)×((Int)×(Unit))))) (a0:List eQ) (a1:Int):Option ((Int)×((Int)×((Int)×(Unit)))):=
 (Go.Fn.oo).bind fun r1=>
 (((Lf.idx a0 a1)).bind fun r2=>
  bif (decide ((r2.2.1:List (UInt8))≠([]:List (UInt8)))) then ((Lf.idx a0 a1)).bind fun r3=>
  ((Go.Fn.dF a0 r3.2.1)).bind fun r4=>
  ((self (a0,r4.1))).bind fun r5=>
  some (((0:Int),((0:Int),((0:Int),()))),r5)
  else some (((0:Int),((0:Int),((0:Int),()))),r1)).bind fun r6=>
 ((Lf.idx a0 a1)).bind fun r7=>
 ((Go.Fn.kR r6.2 r7.2.2.1)).bind fun r8=>
 some r8
theorem xz (self:(List eQ)×(Int)→Option ((Int)×((Int)×((Int)×(Unit))))) (a0:List eQ) (a1:Int):Lf.QH (pg self) n_ pG [.val l_, .val (.int .i64)] [eY] [.cell 4 78] (a0,a1)=lN self a0 a1:=by kernel_rfl
noncomputable def c_:Nat→(List eQ)×(Int)→Option ((Int)×((Int)×((Int)×(Unit))))
 | 0=>fun _=>none
 | n+1=>fun z=>lN (c_ n) z.1 z.2
noncomputable def jO (a0:List eQ) (a1:Int):Option ((Int)×((Int)×((Int)×(Unit)))):=Lf.F5 fun n=>c_ n (a0,a1)
noncomputable def pU:Nat×Lf.Entry:=(69,⟨[.val l_, .val (.int .i64)],[eY],fun z=>jO z.1 z.2⟩)
theorem xx:Lf.aa Go.Proofs.Tryz.prog GG 69 pU.2:=
 Lf.O9 (ps:=[.val l_, .val (.int .i64)]) (rs:=[eY]) (N:=c_) Go.Proofs.Tryz.f69 (by kernel_rfl) (by kernel_rfl) (by kernel_rfl) (by simp [Lf.Ty.top]) (fun _=>rfl) fun n ih=>Lf.xW (c:=pg (c_ n)) (code:=n_) (an:=pG) (slots:=[.cell 4 78]) (fn:=Go.Proofs.Tryz.f69) (by kernel_rfl) ⟨qD,Lf.lv.look (.bq iq (.cons ih (.bq yJ (.bq yh .nil)))),Lf.lZ.look .nil,jv,jA,Lf.oL.look .nil,Lf.pI.look .nil⟩ (by kernel_rfl) (by kernel_rfl) (by kernel_rfl) (by kernel_rfl) (by kernel_rfl) (Nat.le_of_ble_eq_true rfl) (by simp [Lf.Ty.top]) (by simp [Lf.Ty.top]) fun z r h=>(xz (c_ n) z.1 z.2).trans h
noncomputable def gJ (a0:List eQ) (a1:List (UInt8)):Option (((Int)×((Int)×((Int)×(Unit))))×(Int)):=
 ((Go.Fn.gU a0)).bind fun r1=>
 bif (decide ((r1.2:Int)≠(0:Int))) then some (((0:Int),((0:Int),((0:Int),()))),r1.2)
 else ((Go.Fn.dF a0 a1)).bind fun r2=>
 bif (!r2.2) then some (((0:Int),((0:Int),((0:Int),()))),(66:Int))
 else ((Go.Fn.jO a0 r2.1)).bind fun r3=>
 some (r3,(0:Int))
noncomputable def j4:Nat×Lf.Entry:=(27,⟨[.val l_, .val .str],[eY,(.int .i64)],fun z=>gJ z.1 z.2⟩)
theorem pR:Lf.aa Go.Proofs.Tryz.prog GG 27 j4.2:=Kx Go.Proofs.Tryz.f27 31 [jY,fD,pU] [10] [] [] .no [.cell 4 78, .tmp 5] (.bq pQ (.bq iq (.bq xx .nil))) (fun z=>by kernel_rfl) (by kernel_rfl)
noncomputable def gK (a0:(Int)×((Int)×(Unit))) (a1:(Int)×((Int)×((Int)×(Unit)))):Option ((Int)×((Int)×(Unit))):=
 (bif (decide ((a1.2.2.1:Int)≠(-(1:Int)))) then some (((0:Int),((0:Int),())),((Lf.bits .andNot .i64 (Lf.bits .or .i64 a0.1 a1.1) a1.2.1),(a1.2.2.1,a0.2.2)))
  else some (((0:Int),((0:Int),())),((Lf.bits .andNot .i64 (Lf.bits .or .i64 a0.1 a1.1) a1.2.1),a0.2))).bind fun r1=>
 some r1.2
noncomputable def jZ:Nat×Lf.Entry:=(28,⟨[.val (.st bM), .val eY],[(.st bM)],fun z=>gK z.1 z.2⟩)
theorem o9:Lf.aa Go.Proofs.Tryz.prog GG 28 jZ.2:=Kx Go.Proofs.Tryz.f28 21 [] [] [] [] (.seq .no (.seq .no (.seq (.join (.one .aM ⟨[],[(4, .ref 4 [] 0),(2, .ref 2 [] 0)],[],[(4,39,(.st bM)),(2,39,(.st bM))],[]⟩) .no) .no))) [.cell 4 39] .nil (fun z=>by kernel_rfl) (by kernel_rfl)
end Go.Fn
open Go Go.Lf
set_option maxRecDepth 10000
namespace Go.Fn
noncomputable def iO (a0:(List (UInt8))×((Int)×Rm)):Option (Bool):=
 (bif (decide ((a0.1:List (UInt8))≠((32:UInt8)::([]:List (UInt8))))) then bif (decide ((a0.1:List (UInt8))≠((9:UInt8)::([]:List (UInt8))))) then some (decide ((a0.1:List (UInt8))≠((10:UInt8)::([]:List (UInt8)))))
  else some false
  else some false).bind fun r1=>
 some r1
noncomputable def qz:Nat×Lf.Entry:=(117,⟨[.val (.st ax)],[.bool],fun z=>iO z⟩)
theorem yn:Lf.aa Go.Proofs.Tryz.prog GG 117 qz.2:=Kx Go.Proofs.Tryz.f117 16 [] [] [] [] (.seq .no (.seq (.join (.one .aM ⟨[],[],[(2, .bool)],[],[]⟩) .no) .no)) [.tmp 2] .nil (fun z=>by kernel_rfl) (by kernel_rfl)
noncomputable def aK (a0:(List (List ae))×Gj):Option oP:=
 ((Lf.app (24:Nat) a0.1 (a0.2.1::([]:List (List ae))))).bind fun r1=>
 some (r1,(([]:List ae),((0:Int),(([]:List ae),a0.2.2.2.2))))
noncomputable def dI:Nat×Lf.Entry:=(119,⟨[.obj 206 (.st (.pr fK gN)) (.st (.pr fK gN)) []],[],fun z=>aK z⟩)
theorem fT:Lf.aa Go.Proofs.Tryz.prog GG 119 dI.2:=Kx Go.Proofs.Tryz.f119 24 [] [6] [] [(6,fK)] (.seq (.jg 10) .no) [] .nil (fun z=>by kernel_rfl) (by kernel_rfl)
noncomputable def aY (a0:(List (List ae))×Gj) (a1:(List (UInt8))×((Int)×Rm)):Option oP:=
 ((Lf.app (48:Nat) a0.2.1 (a1::([]:List ae)))).bind fun r1=>
 some (a0.1,(r1,((Go.IntKind.wrap .i64 (a0.2.2.1+a1.2.1)),a0.2.2.2)))
noncomputable def fM:Nat×Lf.Entry:=(129,⟨[.obj 206 (.st (.pr fK gN)) (.st (.pr fK gN)) [], .val (.st ax)],[],fun z=>aY z.1 z.2⟩)
theorem jQ:Lf.aa Go.Proofs.Tryz.prog GG 129 fM.2:=Kx Go.Proofs.Tryz.f129 24 [] [8] [] [(8,(.rw 52 (.st ax)))] (.seq .no (.seq (.jg 7) (.draw 10))) [] .nil (fun z=>by kernel_rfl) (by kernel_rfl)
noncomputable def eU (a0:(List (List ae))×Gj) (a1:(List (UInt8))×((Int)×Rm)):Option oP:=
 ((Lf.nz (8:Int) (Go.IntKind.wrap .i64 (Int.tdiv a0.2.2.1 (8:Int))))).bind fun r1=>
 bif (decide (a0.2.2.2.2.1≤(Go.IntKind.wrap .i64 ((Go.IntKind.wrap .i64 (r1+(1:Int)))*(8:Int))))) then ((Go.Fn.aK (Lf.u3 a0 (([]:List ae),a0.2.2.2.2)))).bind fun r2=>
 some r2
 else (Lf.aG (σ:=ae×oP) (κ:=(List (List ae))×Gj) (fun z3=>
   bif (decide (z3.2.2.2.1<(Go.IntKind.wrap .i64 ((Go.IntKind.wrap .i64 (r1+(1:Int)))*(8:Int))))) then ((Go.Fn.aY z3.2 (((32:UInt8)::([]:List (UInt8))),((1:Int),z3.1.2.2)))).bind fun r4=>
   some (.inl (z3.1,r4))
   else some (.inr z3.2)) (a1,(Lf.u3 a0 (([]:List ae),a0.2.2.2.2))):Option oP).bind fun r5=>
 some r5
noncomputable def jR:Nat×Lf.Entry:=(118,⟨[.obj 206 (.st (.pr fK gN)) (.st (.pr fK gN)) [], .val (.st ax)],[],fun z=>eU z.1 z.2⟩)
theorem rY:Lf.aa Go.Proofs.Tryz.prog GG 118 jR.2:=Kx Go.Proofs.Tryz.f118 36 [dI,fM] [] [] [] (.seq .no (.seq .no (.seq .no (.seq .no (.loop ⟨[4],[(3, .ref 3 [] 0),(0, .ref 0 [] 0)],[],[(3,52,(.st ax)),(0,206,(.st (.pr fK gN)))],[]⟩ (.one (.ext 0) ⟨[],[(0, .ref 0 [] 0)],[],[(0,206,(.st (.pr fK gN)))],[]⟩) .no))))) [] (.bq fT (.bq jQ .nil)) (fun z=>by kernel_rfl) (by kernel_rfl)
noncomputable def kM (a0:List ae):Option (Int):=
 (Lf.aG (σ:=(Int)×(Int)) (κ:=Int) (fun z1=>
   bif (decide (z1.1<(((List.length a0):Nat):Int))) then ((Lf.idx a0 z1.1)).bind fun r2=>
   some (.inl ((Go.IntKind.wrap .i64 (z1.1+(1:Int))),(Go.IntKind.wrap .i64 (z1.2+r2.2.1))))
   else some (.inr z1.2)) ((0:Int),(0:Int)):Option (Int)).bind fun r3=>
 some r3
noncomputable def rD:Nat×Lf.Entry:=(122,⟨[.val (.sl (.st ax))],[(.int .i64)],fun z=>kM z⟩)
theorem yK:Lf.aa Go.Proofs.Tryz.prog GG 122 rD.2:=Kx Go.Proofs.Tryz.f122 19 [] [] [] [] (.seq .no (.seq .no (.seq (.seq .no (.loop ⟨[0],[],[(4,(.int .i64)),(3,(.int .i64))],[],[]⟩ (.one (.ext 0) ⟨[],[],[(3,(.int .i64))],[],[]⟩) .no)) .no))) [.tmp 2] .nil (fun z=>by kernel_rfl) (by kernel_rfl)
noncomputable def eD (a0:(List (List ae))×Gj) (a1:List ae):Option oP:=
 ((Go.Fn.kM a1)).bind fun r1=>
 bif (decide ((Go.IntKind.wrap .i64 ((Go.IntKind.wrap .i64 (a0.2.2.1+(((List.length a0.2.2.2.1):Nat):Int)))+r1))≤a0.2.2.2.2.1)) then (bif (decide ((0:Int)<(((List.length a0.2.2.2.1):Nat):Int))) then ((Lf.idx a0.2.2.2.1 (0:Int))).bind fun r2=>
  ((Go.Fn.aY a0 r2)).bind fun r3=>
  some (Lf.u3 r3 (([]:List ae),r3.2.2.2.2))
  else some a0).bind fun r4=>
 (Lf.aG (σ:=(Int)×oP) (κ:=(List (List ae))×Gj) (fun z5=>
   bif (decide (z5.1<(((List.length a1):Nat):Int))) then ((Lf.idx a1 z5.1)).bind fun r6=>
   ((Go.Fn.aY z5.2 r6)).bind fun r7=>
   some (.inl ((Go.IntKind.wrap .i64 (z5.1+(1:Int))),r7))
   else some (.inr z5.2)) ((0:Int),r4):Option oP).bind fun r8=>
 some r8
 else (bif (decide ((0:Int)<(((List.length a0.2.1):Nat):Int))) then ((Go.Fn.aK a0)).bind fun r9=>
  some r9
  else some a0).bind fun r10=>
 (Lf.aG (σ:=(Int)×oP) (κ:=(List (List ae))×Gj) (fun z11=>
   bif (decide (z11.1<(((List.length a1):Nat):Int))) then (((Lf.idx a1 z11.1)).bind fun r12=>
    bif (decide (z11.2.2.2.2.2.1<(Go.IntKind.wrap .i64 (z11.2.2.2.1+r12.2.1)))) then ((Go.Fn.aK z11.2)).bind fun r13=>
    some r13
    else some z11.2).bind fun r14=>
   ((Lf.idx a1 z11.1)).bind fun r15=>
   ((Go.Fn.aY r14 r15)).bind fun r16=>
   some (.inl ((Go.IntKind.wrap .i64 (z11.1+(1:Int))),r16))
   else some (.inr z11.2)) ((0:Int),(Lf.u3 r10 (([]:List ae),r10.2.2.2.2))):Option oP).bind fun r17=>
 some r17
noncomputable def jD:Nat×Lf.Entry:=(120,⟨[.obj 206 (.st (.pr fK gN)) (.st (.pr fK gN)) [], .val (.sl (.st ax))],[],fun z=>eD z.1 z.2⟩)
theorem rH:Lf.aa Go.Proofs.Tryz.prog GG 120 jD.2:=Kx Go.Proofs.Tryz.f120 95 [dI,rD,fM] [] [] [] (.seq .no (.seq (.seq (.draw 17) (.cnd (.seq (.join (.one .aM ⟨[1],[(0, .ref 0 [] 0)],[],[(0,206,(.st (.pr fK gN)))],[]⟩) .no) (.seq (.seq .no (.loop ⟨[1],[(0, .ref 0 [] 0)],[(5,(.int .i64))],[(0,206,(.st (.pr fK gN)))],[]⟩ (.one (.ext 0) ⟨[],[(0, .ref 0 [] 0)],[],[(0,206,(.st (.pr fK gN)))],[]⟩) .no)) .no)) .no)) (.seq (.join (.one .aM ⟨[1],[(0, .ref 0 [] 0)],[],[(0,206,(.st (.pr fK gN)))],[]⟩) .no) (.seq .no (.seq .no (.loop ⟨[1],[(0, .ref 0 [] 0)],[(6,(.int .i64))],[(0,206,(.st (.pr fK gN)))],[]⟩ (.one (.ext 2) ⟨[],[(0, .ref 0 [] 0)],[],[(0,206,(.st (.pr fK gN)))],[]⟩) (.seq .no (.seq (.seq (.join (.one .aM ⟨[1,6],[(0, .ref 0 [] 0)],[],[(0,206,(.st (.pr fK gN)))],[]⟩) (.seq (.draw 15) .no)) .no) .no)))))))) [] (.bq fT (.bq yK (.bq jQ .nil))) (fun z=>by kernel_rfl) (by kernel_rfl)
noncomputable def kN (a0:List ae) (a1:Int):Option ((List (List ae))×(Int)):=
 (bif (!(decide (a1<(1:Int)))) then some (decide ((200:Int)<a1))
  else some true).bind fun r1=>
 bif r1 then some (([]:List (List ae)),(1:Int))
 else (Lf.aG (σ:=Int) (κ:=(Unit)⊕((List (List ae))×(Int))) (fun z2=>
   bif (decide (z2<(((List.length a0):Nat):Int))) then (((Lf.idx a0 z2)).bind fun r3=>
    ((Go.Fn.iO r3)).bind fun r4=>
    bif r4 then ((Lf.idx a0 z2)).bind fun r5=>
    bif (!(decide (r5.2.1<(1:Int)))) then ((Lf.idx a0 z2)).bind fun r6=>
    bif (!(decide ((2:Int)<r6.2.1))) then ((Lf.idx a0 z2)).bind fun r7=>
    some (decide ((r7.1:List (UInt8))=([]:List (UInt8))))
    else some true
    else some true
    else some false).bind fun r8=>
   bif r8 then some (.inr (.inr (([]:List (List ae)),(120:Int))))
   else some (.inl (Go.IntKind.wrap .i64 (z2+(1:Int))))
   else some (.inr (.inl ()))) (0:Int):Option ((Unit)⊕((List (List ae))×(Int)))).bind fun r9=>
 Lf.bC r9 (fun a10=>
 (Lf.aG (σ:=(Int)×oP) (κ:=(List (List ae))×Gj) (fun z11=>
   bif (decide (z11.1<(((List.length a0):Nat):Int))) then (((Lf.idx a0 z11.1)).bind fun r12=>
    bif (decide ((r12.1:List (UInt8))=((32:UInt8)::([]:List (UInt8))))) then (bif (decide ((0:Int)<(((List.length z11.2.2.1):Nat):Int))) then some ((decide (((((List.length z11.2.2.2.2.1):Nat):Int):Int)=(0:Int))),(z11.2,r12))
     else some (false,(z11.2,r12))).bind fun r13=>
    bif r13.1 then some (z11.1,(Lf.u3 r13.2.1 (((((32:UInt8)::([]:List (UInt8))),((1:Int),r13.2.2.2.2))::([]:List ae)),r13.2.1.2.2.2.2)))
    else some (z11.1,r13.2.1)
    else bif (decide ((r12.1:List (UInt8))=((9:UInt8)::([]:List (UInt8))))) then ((Go.Fn.eU z11.2 r12)).bind fun r14=>
    some (z11.1,r14)
    else bif (decide ((r12.1:List (UInt8))=((10:UInt8)::([]:List (UInt8))))) then ((Go.Fn.aK (Lf.u3 z11.2 (([]:List ae),z11.2.2.2.2.2)))).bind fun r15=>
    some (z11.1,r15)
    else (Lf.aG (σ:=(Int)×((List ae)×oP)) (κ:=(List ae)×((Int)×oP)) (fun z16=>
      (bif (decide (z16.1<(((List.length a0):Nat):Int))) then ((Lf.idx a0 z16.1)).bind fun r17=>
       ((Go.Fn.iO r17)).bind fun r18=>
       some (r18,z16.2)
       else some (false,z16.2)).bind fun r19=>
      bif r19.1 then ((Lf.idx a0 z16.1)).bind fun r20=>
      (bif (decide (a1<r20.2.1)) then some (r19.2.1,(r19.2.2,(((63:UInt8)::([]:List (UInt8))),((1:Int),r20.2.2))))
       else some (r19.2.1,(r19.2.2,r20))).bind fun r21=>
      ((Lf.app (48:Nat) r21.1 (r21.2.2::([]:List ae)))).bind fun r22=>
      some (.inl ((Go.IntKind.wrap .i64 (z16.1+(1:Int))),(r22,r21.2.1)))
      else some (.inr (r19.2.1,(z16.1,r19.2.2)))) (z11.1,(([]:List ae),z11.2)):Option ((List ae)×((Int)×oP))).bind fun r23=>
    ((Go.Fn.eD r23.2.2 r23.1)).bind fun r24=>
    some ((Go.IntKind.wrap .i64 (r23.2.1 - (1:Int))),r24):Option ((Int)×oP)).bind fun r25=>
   some (.inl ((Go.IntKind.wrap .i64 (r25.1+(1:Int))),r25.2))
   else some (.inr z11.2)) ((0:Int),(([]:List (List ae)),(([]:List ae),((0:Int),(([]:List ae),(a1,())))))):Option oP).bind fun r26=>
 (bif (decide ((0:Int)<(((List.length r26.2.1):Nat):Int))) then ((Go.Fn.aK r26)).bind fun r27=>
  some r27
  else some r26).bind fun r28=>
 some (r28.1,(0:Int))) (fun b29=>
 some b29)
noncomputable def qA:Nat×Lf.Entry:=(92,⟨[.val (.sl (.st ax)), .val (.int .i64)],[fK,(.int .i64)],fun z=>kN z.1 z.2⟩)
theorem yD:Lf.aa Go.Proofs.Tryz.prog GG 92 qA.2:=Kx Go.Proofs.Tryz.f92 149 [qz,jR,dI,jD] [4,10,89,148] [] [(4,fK),(10,(.rw 52 (.st ax))),(54,(.st (.pr fK gN))),(89,(.rw 52 (.st ax))),(122,(.rw 52 (.st ax))),(148,fK)] (.seq .no (.seq (.seq (.join (.one .aM ⟨[0,1],[],[(17, .bool)],[],[]⟩) .no) .no) (.seq (.seq .no (.loop ⟨[0,1],[],[(6,(.int .i64))],[],[]⟩ (.more (.ext 0) ⟨[1,0],[],[],[],[]⟩ (.one .ret ⟨[],[],[(4,fK),(5,(.int .i64))],[],[]⟩)) (.seq .no (.seq (.seq (.join (.one .aM ⟨[0,1,6],[],[(52, .bool)],[],[]⟩) .no) .no) .no)))) (.seq .no (.seq (.seq .no (.loop ⟨[1,0],[(7, .ref 55 [] 0)],[(8,(.int .i64))],[(55,206,(.st (.pr fK gN)))],[]⟩ (.one (.ext 2) ⟨[],[(7, .ref 55 [] 0)],[],[(55,206,(.st (.pr fK gN)))],[]⟩) (.seq .no (.seq (.join (.one .aM ⟨[1,0],[(7, .ref 55 [] 0)],[(8,(.int .i64))],[(55,206,(.st (.pr fK gN)))],[]⟩) (.seq .no (.seq .no (.seq .no (.cnd (.seq (.join (.one .aM ⟨[1,0,8],[(7, .ref 55 [] 0),(9, .ref 9 [] 0)],[(115, .bool)],[(55,206,(.st (.pr fK gN))),(9,52,(.st ax))],[]⟩) .no) .no) (.seq .no (.cnd .no (.seq .no (.cnd .no (.seq .no (.seq (.loop ⟨[1,0],[(7, .ref 55 [] 0)],[(8,(.int .i64)),(10,(.rw 52 (.st ax)))],[(55,206,(.st (.pr fK gN)))],[]⟩ (.one (.ext 5) ⟨[1,0],[(7, .ref 55 [] 0)],[(10,(.rw 52 (.st ax))),(8,(.int .i64))],[(55,206,(.st (.pr fK gN)))],[]⟩) (.seq (.seq (.join (.one .aM ⟨[1,0,8],[(7, .ref 55 [] 0)],[(78, .bool),(10,(.rw 52 (.st ax)))],[(55,206,(.st (.pr fK gN)))],[]⟩) .no) .no) (.seq .no (.seq (.join (.one .aM ⟨[1,0,8],[(7, .ref 55 [] 0),(11, .ref 11 [] 0)],[(10,(.rw 52 (.st ax)))],[(55,206,(.st (.pr fK gN))),(11,52,(.st ax))],[]⟩) .no) .no)))) .no))))))))))) .no)))) (.seq (.join (.one .aM ⟨[],[(7, .ref 55 [] 0)],[],[(55,206,(.st (.pr fK gN)))],[]⟩) .no) .no)))))) [.tmp 4, .tmp 5] (.bq yn (.bq rY (.bq fT (.bq rH .nil)))) (fun z=>by kernel_rfl) (by kernel_rfl)
end Go.Fn
open Go Go.Lf
set_option maxRecDepth 10000
namespace Go.Fn
noncomputable def aW (a0:(List eQ)×je):Option ((Int)×((Int)×(Unit))):=
 ((Lf.idx a0.2.2.2.2.2.2.1 (Go.IntKind.wrap .i64 ((((List.length a0.2.2.2.2.2.2.1):Nat):Int) - (1:Int))))).bind fun r1=>
 some r1
noncomputable def dK:Nat×Lf.Entry:=(59,⟨[.val (.ptr (.st (.pr l_ NU)))],[(.st bM)],fun z=>aW z⟩)
theorem fO:Lf.aa Go.Proofs.Tryz.prog GG 59 dK.2:=Kx Go.Proofs.Tryz.f59 15 [] [] [] [] (.seq .no (.seq (.draw 12) .no)) [.cell 2 39] .nil (fun z=>by kernel_rfl) (by kernel_rfl)
noncomputable def bf (a0:(List eQ)×je) (a1:List (UInt8)) (a2:Int):Option ((List eQ)×je):=
 ((Go.Fn.aW a0)).bind fun r1=>
 ((Lf.app (48:Nat) a0.2.2.2.2.2.2.2.2.2.1 ((a1,(a2,(r1,(a0.2.2.2.2.2.2.2.2.1,()))))::([]:List ae)))).bind fun r2=>
 some (Lf.u9 a0 (r2,a0.2.2.2.2.2.2.2.2.2.2))
noncomputable def ja:Nat×Lf.Entry:=(57,⟨[.obj 92 (.st iZ) (.st iZ) [], .val .str, .val (.int .i64)],[],fun z=>bf z.1 z.2.1 z.2.2⟩)
theorem pY:Lf.aa Go.Proofs.Tryz.prog GG 57 ja.2:=Kx Go.Proofs.Tryz.f57 24 [dK] [10] [] [(10,(.rw 52 (.st ax)))] (.jg 15) [] (.bq fO .nil) (fun z=>by kernel_rfl) (by kernel_rfl)
noncomputable def bK (a0:(List eQ)×je) (a1:Int):Option ((Int)×((Int)×(Unit))):=
 bif (decide (a1<(0:Int))) then ((Go.Fn.aW a0)).bind fun r1=>
 some r1
 else ((Lf.idx a0.1 a1)).bind fun r2=>
 ((Go.Fn.gJ a0.1 r2.1)).bind fun r3=>
 ((Go.Fn.aW a0)).bind fun r4=>
 ((Go.Fn.gK r4 r3.1)).bind fun r5=>
 some r5
noncomputable def eH:Nat×Lf.Entry:=(58,⟨[.val (.ptr (.st (.pr l_ NU))), .val (.int .i64)],[(.st bM)],fun z=>bK z.1 z.2⟩)
theorem iG:Lf.aa Go.Proofs.Tryz.prog GG 58 eH.2:=Kx Go.Proofs.Tryz.f58 31 [j4,jZ,dK] [] [] [] (.seq .no (.seq .no (.seq (.jg 17) (.seq (.draw 4) .no)))) [.cell 4 39] (.bq pR (.bq o9 (.bq fO .nil))) (fun z=>by kernel_rfl) (by kernel_rfl)
noncomputable def dL (a0:(List eQ)×je) (a1:(Int)×VM):Option ((List eQ)×je):=
 bif (decide ((a1.1:Int)=(1:Int))) then ((Go.Fn.dQ a1.2.2.1)).bind fun r1=>
 (Lf.aG (σ:=(Int)×((List eQ)×je)) (κ:=(List eQ)×je) (fun z2=>
   bif (decide (z2.1<(((List.length r1):Nat):Int))) then ((Lf.idx r1 z2.1)).bind fun r3=>
   ((Go.Fn.bf z2.2 r3.1 r3.2.2.1)).bind fun r4=>
   some (.inl ((Go.IntKind.wrap .i64 (z2.1+(1:Int))),r4))
   else some (.inr z2.2)) ((0:Int),a0):Option ((List eQ)×je)).bind fun r5=>
 some r5
 else bif (decide ((a1.1:Int)=(2:Int))) then ((Go.Fn.bK a0 a1.2.1)).bind fun r6=>
 ((Lf.app (16:Nat) a0.2.2.2.2.2.2.1 (r6::([]:List ((Int)×((Int)×(Unit))))))).bind fun r7=>
 ((Lf.app (1:Nat) a0.2.2.2.2.2.2.2.1 (false::([]:List (Bool))))).bind fun r8=>
 some (Lf.u6 a0 (r7,(r8,a0.2.2.2.2.2.2.2.2)))
 else (bif (decide ((a1.1:Int)=(3:Int))) then some ((decide ((a1.1:Int)=(3:Int))),(a0,a1))
  else some ((decide ((a1.1:Int)=(4:Int))),(a0,a1))).bind fun r9=>
 bif r9.1 then ((Lf.app (16:Nat) r9.2.1.2.2.1.2.2.1 (((Go.IntKind.wrap .i64 (r9.2.2.1 - (3:Int))),(r9.2.2.2.1,()))::([]:List ((Int)×((Int)×(Unit))))))).bind fun r10=>
 ((Go.Fn.aW (Lf.u2 r9.2.1 ((Lf.u2 r9.2.1.2.2.1 (r10,r9.2.1.2.2.1.2.2.2)),(Lf.u5 r9.2.1.2.2.2 ((((List.length r10):Nat):Int),r9.2.1.2.2.2.2.2.2.2.2.2)))))).bind fun r11=>
 ((Lf.app (16:Nat) r9.2.1.2.2.2.2.2.2.1 (r11::([]:List ((Int)×((Int)×(Unit))))))).bind fun r12=>
 ((Lf.app (1:Nat) r9.2.1.2.2.2.2.2.2.2.1 (true::([]:List (Bool))))).bind fun r13=>
 some (Lf.u2 r9.2.1 ((Lf.u2 r9.2.1.2.2.1 (r10,r9.2.1.2.2.1.2.2.2)),(Lf.u3 r9.2.1.2.2.2 (r12,(r13,((((List.length r10):Nat):Int),r9.2.1.2.2.2.2.2.2.2.2.2))))))
 else bif (decide ((a1.1:Int)=(5:Int))) then ((Lf.sub r9.2.1.2.2.2.2.2.2.1 (0:Int) (Go.IntKind.wrap .i64 ((((List.length r9.2.1.2.2.2.2.2.2.1):Nat):Int) - (1:Int))))).bind fun r14=>
 (((Lf.lG (List.length r9.2.1.2.2.2.2.2.2.2.1) (Go.IntKind.wrap .i64 ((((List.length r9.2.1.2.2.2.2.2.2.2.1):Nat):Int) - (1:Int))))).bind fun r15=>
  ((Lf.nth r9.2.1.2.2.2.2.2.2.2.1 r15)).bind fun r16=>
  bif r16 then some (Lf.u6 r9.2.1 (r14,(r9.2.1.2.2.2.2.2.2.2.1,((0:Int),r9.2.1.2.2.2.2.2.2.2.2.2))))
  else some (Lf.u6 r9.2.1 (r14,r9.2.1.2.2.2.2.2.2.2))).bind fun r17=>
 ((Lf.sub r17.2.2.2.2.2.2.2.1 (0:Int) (Go.IntKind.wrap .i64 ((((List.length r9.2.1.2.2.2.2.2.2.2.1):Nat):Int) - (1:Int))))).bind fun r18=>
 some (Lf.u7 r17 (r18,r17.2.2.2.2.2.2.2.2))
 else bif (decide ((a1.1:Int)=(6:Int))) then ((Go.Fn.bf r9.2.1 (Lf.yz ((9:Int)::([]:List (Int)))) (1:Int))).bind fun r19=>
 some r19
 else bif (decide ((a1.1:Int)=(7:Int))) then ((Go.Fn.bf r9.2.1 (Lf.yz ((10:Int)::([]:List (Int)))) (1:Int))).bind fun r20=>
 some r20
 else some r9.2.1
noncomputable def iJ:Nat×Lf.Entry:=(22,⟨[.obj 92 (.st iZ) (.st iZ) [], .val (.st dY)],[],fun z=>dL z.1 z.2⟩)
theorem oC:Lf.aa Go.Proofs.Tryz.prog GG 22 iJ.2:=Kx Go.Proofs.Tryz.f22 152 [ko,ja,eH,dK] [58,112,137] [] [(58,(.rw 113 (.st bM)))] (.seq .no (.seq .no (.seq .no (.cnd (.seq .no (.loop ⟨[13,14],[(0, .ref 0 [] 0)],[(15,(.int .i64))],[(0,92,(.st iZ))],[]⟩ (.one (.ext 1) ⟨[],[(0, .ref 0 [] 0)],[],[(0,92,(.st iZ))],[]⟩) .no)) (.seq .no (.cnd (.seq (.jg 10) .no) (.seq (.join (.one .aM ⟨[8],[(0, .ref 0 [] 0),(3, .ref 3 [] 0)],[(50, .bool)],[(0,92,(.st iZ)),(3,44,(.st dY))],[]⟩) .no) (.cnd (.seq (.jg 13) (.seq .no (.seq (.jg 8) .no))) (.seq .no (.cnd (.seq (.jg 11) (.seq .no (.seq (.join (.one .aM ⟨[6],[(0, .ref 0 [] 0)],[],[(0,92,(.st iZ))],[]⟩) .no) .no))) .no)))))))))) [] (.bq pV (.bq pY (.bq iG (.bq fO .nil)))) (fun z=>by kernel_rfl) (by kernel_rfl)
noncomputable def bU (a0:(List eQ)×je):Option ((Bool)×((List eQ)×je)):=
 (bif (decide ((0:Int)<(((List.length a0.2.2.2.2.2.2.2.2.2.2.1):Nat):Int))) then ((Lf.lG (List.length a0.2.2.2.2.2.2.2.2.2.2.1) (Go.IntKind.wrap .i64 ((((List.length a0.2.2.2.2.2.2.2.2.2.2.1):Nat):Int) - (1:Int))))).bind fun r1=>
  ((Lf.nth a0.2.2.2.2.2.2.2.2.2.2.1 r1)).bind fun r2=>
  some (r2.2.2.2.1,a0)
  else some (false,a0)).bind fun r3=>
 some r3
noncomputable def eT:Nat×Lf.Entry:=(60,⟨[.obj 92 (.st iZ) (.st iZ) []],[.bool],fun z=>bU z⟩)
theorem iY:Lf.aa Go.Proofs.Tryz.prog GG 60 eT.2:=Kx Go.Proofs.Tryz.f60 24 [] [] [] [] (.seq .no (.seq (.join (.one .aM ⟨[],[(0, .ref 0 [] 0)],[(2, .bool)],[(0,92,(.st iZ))],[]⟩) (.draw 22)) .no)) [.tmp 2] .nil (fun z=>by kernel_rfl) (by kernel_rfl)
noncomputable def cz (a0:(List eQ)×je) (a1:List ae):Option ((List eQ)×je):=
 ((Lf.app (24:Nat) a0.2.2.1.1 (a1::([]:List (List ae))))).bind fun r1=>
 some (Lf.u2 a0 ((r1,a0.2.2.1.2),a0.2.2.2))
noncomputable def fH:Nat×Lf.Entry:=(61,⟨[.obj 92 (.st iZ) (.st iZ) [], .val (.sl (.st ax))],[],fun z=>cz z.1 z.2⟩)
theorem jE:Lf.aa Go.Proofs.Tryz.prog GG 61 fH.2:=Kx Go.Proofs.Tryz.f61 16 [] [9] [] [(9,fK)] .no [] .nil (fun z=>by kernel_rfl) (by kernel_rfl)
noncomputable def fP (a0:(List eQ)×je):Option ((List eQ)×je):=
 bif (decide ((a0.2.2.2.2.1:List (UInt8))≠([]:List (UInt8)))) then none
 else some a0
noncomputable def iN:Nat×Lf.Entry:=(63,⟨[.obj 92 (.st iZ) (.st iZ) []],[],fun z=>fP z⟩)
theorem oD:Lf.aa Go.Proofs.Tryz.prog GG 63 iN.2:=Kx Go.Proofs.Tryz.f63 11 [] [] [] [(6000007, .bool)] (.seq .no (.cnd (.opn 999999 .no) .no)) [] .nil (fun z=>by kernel_rfl) (by kernel_rfl)
noncomputable def gT  :Option ((Int)×((Int)×(Unit))):=
 some ((0:Int),((7:Int),()))
noncomputable def gH:Nat×Lf.Entry:=(9,⟨[],[(.st bM)],fun _=>gT ⟩)
theorem kg:Lf.aa Go.Proofs.Tryz.prog GG 9 gH.2:=Kx Go.Proofs.Tryz.f9 2 [] [] [] [] .no [.cell 0 39] .nil (fun z=>by kernel_rfl) (by kernel_rfl)
noncomputable def iV (a0:List ae) (a1:Int):Option (List ae):=
 (Lf.aG (σ:=(Int)×(List ae)) (κ:=List ae) (fun z1=>
   bif (decide (z1.1<a1)) then (Go.Fn.gT).bind fun r2=>
   ((Lf.app (48:Nat) z1.2 ((((32:UInt8)::([]:List (UInt8))),((1:Int),(r2,((0:Int),()))))::([]:List ae)))).bind fun r3=>
   some (.inl ((Go.IntKind.wrap .i64 (z1.1+(1:Int))),r3))
   else some (.inr z1.2)) ((0:Int),a0):Option (List ae)).bind fun r4=>
 some r4
noncomputable def nR:Nat×Lf.Entry:=(94,⟨[.val (.rw 52 (.st ax)), .val (.int .i64)],[(.rw 52 (.st ax))],fun z=>iV z.1 z.2⟩)
theorem vM:Lf.aa Go.Proofs.Tryz.prog GG 94 nR.2:=Kx Go.Proofs.Tryz.f94 17 [gH] [0,4,11,16] [] [(0,(.rw 52 (.st ax))),(4,(.rw 52 (.st ax))),(11,(.rw 52 (.st ax))),(16,(.rw 52 (.st ax)))] (.seq .no (.seq (.seq .no (.loop ⟨[1],[],[(5,(.int .i64)),(0,(.rw 52 (.st ax)))],[],[]⟩ (.one (.ext 0) ⟨[],[],[(0,(.rw 52 (.st ax)))],[],[]⟩) .no)) .no)) [.tmp 4] (.bq kg .nil) (fun z=>by kernel_rfl) (by kernel_rfl)
noncomputable def e_ (a0:(List eQ)×je):Option ((List eQ)×je):=
 ((Lf.sub a0.2.2.2.2.2.2.1 (0:Int) (Go.IntKind.wrap .i64 ((((List.length a0.2.2.2.2.2.2.1):Nat):Int) - (1:Int))))).bind fun r1=>
 ((Go.Fn.bU (Lf.u6 a0 (r1,(Lf.u2 a0.2.2.2.2.2.2.2 (([]:List ae),a0.2.2.2.2.2.2.2.2.2.2)))))).bind fun r2=>
 bif r2.1 then ((Lf.app (24:Nat) r2.2.2.2.2.2.2.2.2.2.2.2.2.2.1 (a0.2.2.2.2.2.2.2.2.2.1::([]:List (List ae))))).bind fun r3=>
 some (Lf.ZY r2.2 (r3,r2.2.2.2.2.2.2.2.2.2.2.2.2.2.2))
 else ((Go.Fn.kN a0.2.2.2.2.2.2.2.2.2.1 (Go.IntKind.wrap .i64 (r2.2.2.1 - r2.2.2.2.2.1)))).bind fun r4=>
 (bif (decide (((((List.length r4.1):Nat):Int):Int)=(0:Int))) then ((Go.Fn.fP r2.2)).bind fun r5=>
  some r5
  else some r2.2).bind fun r6=>
 (Lf.aG (σ:=(Int)×((List eQ)×je)) (κ:=(List eQ)×je) (fun z7=>
   bif (decide (z7.1<(((List.length r4.1):Nat):Int))) then ((Lf.idx r4.1 z7.1)).bind fun r8=>
   bif (decide ((z7.2.2.2.2.2.1:List (UInt8))≠([]:List (UInt8)))) then none
   else ((Go.Fn.iV ([]:List ae) z7.2.2.2.2.1)).bind fun r9=>
   ((Lf.app (48:Nat) r9 r8)).bind fun r10=>
   ((Go.Fn.cz z7.2 r10)).bind fun r11=>
   some (.inl ((Go.IntKind.wrap .i64 (z7.1+(1:Int))),r11))
   else some (.inr z7.2)) ((0:Int),r6):Option ((List eQ)×je)).bind fun r12=>
 some r12
noncomputable def jT:Nat×Lf.Entry:=(62,⟨[.obj 92 (.st iZ) (.st iZ) []],[],fun z=>e_ z⟩)
theorem rV:Lf.aa Go.Proofs.Tryz.prog GG 62 jT.2:=Kx Go.Proofs.Tryz.f62 98 [eT,fH,iN,qA,nR] [7,36,91,20] [] [(7,(.rw 52 (.st ax))),(36,fK),(91,(.rw 52 (.st ax))),(6000076, .bool)] (.seq (.jg 11) (.seq .no (.seq .no (.seq .no (.seq (.jg 14) (.seq (.join (.one .aM ⟨[3],[(0, .ref 0 [] 0)],[],[(0,92,(.st iZ))],[]⟩) .no) (.seq .no (.loop ⟨[61,62],[(0, .ref 0 [] 0)],[(63,(.int .i64))],[(0,92,(.st iZ))],[]⟩ (.one (.ext 0) ⟨[],[(0, .ref 0 [] 0)],[],[(0,92,(.st iZ))],[]⟩) (.seq .no (.seq .no (.seq (.seq .no (.seq .no (.seq .no (.seq (.seq .no (.cnd (.seq (.opn 999999 .no) .no) .no)) .no)))) .no))))))))))) [] (.bq iY (.bq jE (.bq oD (.bq yD (.bq vM .nil))))) (fun z=>by kernel_rfl) (by kernel_rfl)
noncomputable def bg (a0:(List eQ)×je) (a1:(Int)×VM):Option ((List eQ)×je):=
 bif (decide ((a1.1:Int)=(8:Int))) then ((bif a0.2.2.2.2.2.2.2.2.2.2.2.2.2.2.1 then bif (decide ((a0.2.2.2.2.1:List (UInt8))=([]:List (UInt8)))) then ((Go.Fn.bU a0)).bind fun r1=>
   some ((!r1.1),(r1.2,a1))
   else some (false,(a0,a1))
   else some (false,(a0,a1))).bind fun r2=>
  bif r2.1 then ((Go.Fn.cz r2.2.1 ([]:List ae))).bind fun r3=>
  some (r3,r2.2.2)
  else some r2.2).bind fun r4=>
 ((Go.Fn.bK (Lf.u9 r4.1 (([]:List ae),r4.1.2.2.2.2.2.2.2.2.2.2)) r4.2.2.1)).bind fun r5=>
 ((Lf.app (16:Nat) r4.1.2.2.2.2.2.2.1 (r5::([]:List ((Int)×((Int)×(Unit))))))).bind fun r6=>
 some (Lf.u6 r4.1 (r6,(Lf.u2 r4.1.2.2.2.2.2.2.2 (([]:List ae),r4.1.2.2.2.2.2.2.2.2.2.2))))
 else bif (decide ((a1.1:Int)=(9:Int))) then ((Go.Fn.e_ a0)).bind fun r7=>
 some r7
 else bif (decide ((a1.1:Int)=(10:Int))) then none
 else bif (decide ((a1.1:Int)=(11:Int))) then none
 else bif (decide ((a1.1:Int)=(12:Int))) then none
 else bif (decide ((a1.1:Int)=(13:Int))) then none
 else bif (decide ((a1.1:Int)=(14:Int))) then none
 else some a0
noncomputable def iW:Nat×Lf.Entry:=(23,⟨[.obj 92 (.st iZ) (.st iZ) [], .val (.st dY)],[],fun z=>bg z.1 z.2⟩)
theorem p_:Lf.aa Go.Proofs.Tryz.prog GG 23 iW.2:=Kx Go.Proofs.Tryz.f23 145 [eH,eT,fH,jT] [142] [] [(6000049, .bool),(6000069, .bool),(6000076, .bool),(6000100, .bool),(6000107, .bool)] (.seq .no (.seq .no (.seq .no (.cnd (.seq (.join (.one .aM ⟨[],[(0, .ref 0 [] 0),(3, .ref 3 [] 0)],[],[(0,92,(.st iZ)),(3,44,(.st dY))],[]⟩) (.seq (.join (.one .aM ⟨[],[(0, .ref 0 [] 0),(3, .ref 3 [] 0)],[(24, .bool)],[(0,92,(.st iZ)),(3,44,(.st dY))],[]⟩) .no) .no)) (.seq .no (.jg 10))) (.seq .no (.cnd .no (.seq .no (.cnd (.seq (.opn 999999 .no) .no) (.seq .no (.cnd (.seq (.opn 999999 .no) .no) (.seq .no (.cnd (.seq (.opn 999999 .no) .no) (.seq .no (.cnd (.seq (.opn 999999 .no) .no) (.seq .no (.cnd (.seq (.opn 999999 .no) .no) .no)))))))))))))))) [] (.bq iG (.bq iY (.bq jE (.bq rV .nil)))) (fun z=>by kernel_rfl) (by kernel_rfl)
noncomputable def jH (a0:List (List ae)):Option (List eB):=
 (Lf.aG (σ:=(List eB)×(Int)) (κ:=List eB) (fun z1=>
   bif (decide (z1.2<(((List.length a0):Nat):Int))) then ((Lf.idx a0 z1.2)).bind fun r2=>
   (Lf.aG (σ:=(Int)×((Int)×(List eB))) (κ:=List eB) (fun z3=>
     bif (decide (z3.1<(((List.length r2):Nat):Int))) then ((Lf.idx r2 z3.1)).bind fun r4=>
     ((bif (decide ((r4.2.2.2.1:Int)≠(0:Int))) then bif (decide ((0:Int)<z3.1)) then ((Lf.idx r2 (Go.IntKind.wrap .i64 (z3.1 - (1:Int))))).bind fun r5=>
       some ((decide ((r5.2.2.2.1:Int)=r4.2.2.2.1)),(z3.2.2,r4))
       else some (false,(z3.2.2,r4))
       else some (false,(z3.2.2,r4))).bind fun r6=>
      bif r6.1 then ((Lf.lG (List.length r6.2.1) (Go.IntKind.wrap .i64 ((((List.length r6.2.1):Nat):Int) - (1:Int))))).bind fun r7=>
      ((Lf.nth r6.2.1 r7)).bind fun r8=>
      ((Lf.lG (List.length r6.2.1) (Go.IntKind.wrap .i64 ((((List.length r6.2.1):Nat):Int) - (1:Int))))).bind fun r9=>
      ((Lf.nth r6.2.1 r9)).bind fun r10=>
      some ((List.set r6.2.1 r9 (Lf.u2 r10 ((Go.IntKind.wrap .i64 (r8.2.2.1+r6.2.2.2.1)),r10.2.2.2))),r6.2.2)
      else bif (decide ((r6.2.2.2.2.2.1:Int)≠(0:Int))) then ((Lf.app (32:Nat) r6.2.1 ((z1.2,(z3.2.1,(r6.2.2.2.1,r6.2.2.2.2.2)))::([]:List eB)))).bind fun r11=>
      some (r11,r6.2.2)
      else some r6.2).bind fun r12=>
     some (.inl ((Go.IntKind.wrap .i64 (z3.1+(1:Int))),((Go.IntKind.wrap .i64 (z3.2.1+r12.2.2.1)),r12.1)))
     else some (.inr z3.2.2)) ((0:Int),((0:Int),z1.1)):Option (List eB)).bind fun r13=>
   some (.inl (r13,(Go.IntKind.wrap .i64 (z1.2+(1:Int)))))
   else some (.inr z1.1)) (([]:List eB),(0:Int)):Option (List eB)).bind fun r14=>
 some r14
noncomputable def oV:Nat×Lf.Entry:=(24,⟨[.val (.sl (.sl (.st ax)))],[(.sl (.st kC))],fun z=>jH z⟩)
theorem xh:Lf.aa Go.Proofs.Tryz.prog GG 24 oV.2:=Kx Go.Proofs.Tryz.f24 73 [] [] [] [(3,(.mr 61 (.st kC)))] (.seq .no (.seq .no (.seq (.seq .no (.loop ⟨[9,10],[],[(3,(.mr 61 (.st kC))),(11,(.int .i64))],[],[]⟩ (.one (.ext 0) ⟨[],[],[(3,(.mr 61 (.st kC)))],[],[]⟩) (.seq .no (.seq .no (.seq (.seq .no (.seq .no (.seq .no (.loop ⟨[4,5,16,9,10,11,17],[],[(18,(.int .i64)),(6,(.int .i64)),(3,(.mr 61 (.st kC)))],[],[]⟩ (.one (.ext 2) ⟨[9,10,11],[],[(3,(.mr 61 (.st kC)))],[],[]⟩) (.seq .no (.seq .no (.seq (.seq .no (.seq (.join (.one .aM ⟨[4,5,16,9,10,11,17,18,6],[(8, .ref 8 [] 0)],[(3,(.mr 61 (.st kC)))],[(8,52,(.st ax))],[]⟩) (.seq (.join (.one .aM ⟨[4,5,16,9,10,11,17,18,6],[(8, .ref 8 [] 0)],[(40, .bool),(3,(.mr 61 (.st kC)))],[(8,52,(.st ax))],[]⟩) (.draw 18)) (.cnd (.draw 12) .no))) .no)) .no))))))) .no))))) .no))) [.tmp 2] .nil (fun z=>by kernel_rfl) (by kernel_rfl)
end Go.Fn
open Go Go.Lf
set_option maxRecDepth 10000
namespace Go.Fn
noncomputable def jf (a0:List eQ) (a1:List ((Int)×((Int)×((List (UInt8))×((List (Int))×(Unit)))))) (a2:Int) (a3:Int):Option (iI×(Int)):=
 (bif (!(decide (a3<(10:Int)))) then some ((decide ((200:Int)<a3)),(([]:List (List ae)),(([]:List eB),(([]:List ((Int)×((Int)×(Unit)))),(false,())))))
  else some (true,(([]:List (List ae)),(([]:List eB),(([]:List ((Int)×((Int)×(Unit)))),(false,())))))).bind fun r1=>
 bif r1.1 then some ((([]:List (List ae)),(([]:List eB),(([]:List ((Int)×((Int)×(Unit)))),(false,())))),(1:Int))
 else ((Go.Fn.gU a0)).bind fun r2=>
 bif (decide ((r2.2:Int)≠(0:Int))) then some ((([]:List (List ae)),(([]:List eB),(([]:List ((Int)×((Int)×(Unit)))),(false,())))),r2.2)
 else ((Go.Fn.jI a1 (((List.length a0):Nat):Int) a2)).bind fun r3=>
 bif (decide ((r3.2:Int)≠(0:Int))) then some ((([]:List (List ae)),(([]:List eB),(([]:List ((Int)×((Int)×(Unit)))),(false,())))),r3.2)
 else bif (decide ((1000:Int)<a2)) then some ((([]:List (List ae)),(([]:List eB),(([]:List ((Int)×((Int)×(Unit)))),(false,())))),(2:Int))
 else (Go.Fn.gT).bind fun r4=>
 (Lf.aG (σ:=(Int)×(Oq×iI)) (κ:=iI×Oq) (fun z5=>
   bif (decide (z5.1<(((List.length a1):Nat):Int))) then ((Lf.idx a1 z5.1)).bind fun r6=>
   ((Go.Fn.dL z5.2.1 r6)).bind fun r7=>
   ((Go.Fn.bg r7 r6)).bind fun r8=>
   some (.inl ((Go.IntKind.wrap .i64 (z5.1+(1:Int))),((Lf.ZT r8 ((decide ((r6.1:Int)=(9:Int))),r8.2.2.2.2.2.2.2.2.2.2.2.2.2.2.2)),z5.2.2)))
   else some (.inr (z5.2.2,z5.2.1))) ((0:Int),((a0,(a3,((([]:List (List ae)),(([]:List eB),(([]:List ((Int)×((Int)×(Unit)))),(false,())))),((0:Int),(([]:List (UInt8)),((0:Int),((r4::([]:List ((Int)×((Int)×(Unit))))),(([]:List (Bool)),((0:Int),(([]:List ae),(([]:List ((Int)×((Int)×((Int)×((Bool)×(Unit)))))),(([]:List ((Int)×((Int)×(Unit)))),(([]:List (List ae)),(false,(false,()))))))))))))))),r1.2)):Option (iI×Oq)).bind fun r9=>
 (bif (decide ((2000:Int)<(((List.length r9.2.2.2.1.1):Nat):Int))) then ((Lf.sub r9.2.2.2.1.1 (0:Int) (2000:Int))).bind fun r10=>
  some (Lf.u3 r9 ((r10,(Lf.u2 r9.2.2.2.1.2 (true,r9.2.2.2.1.2.2.2.2))),r9.2.2.2.2))
  else some r9).bind fun r11=>
 ((Go.Fn.jH r11.2.2.2.1.1)).bind fun r12=>
 some ((r11.2.2.2.1.1,(r12,r11.2.2.2.1.2.2)),(0:Int))
noncomputable def nT:Nat×Lf.Entry:=(8,⟨[.val l_, .val (.sl (.st dY)), .val (.int .i64), .val (.int .i64)],[(.st bJ),(.int .i64)],fun z=>jf z.1 z.2.1 z.2.2.1 z.2.2.2⟩)
theorem vR:Lf.aa Go.Proofs.Tryz.prog GG 8 nT.2:=Kx Go.Proofs.Tryz.f8 108 [gH,jY,o7,iJ,iW,oV] [24,33] [] [(51,(.mr 39 (.st bM))),(52,(.st (.pr l_ Lg)))] (.seq .no (.seq (.seq (.join (.one .aM ⟨[1,3,0,2],[(8, .ref 8 [] 0)],[(22, .bool)],[(8,30,(.st bJ))],[]⟩) .no) .no) (.seq .no (.seq .no (.seq .no (.seq .no (.seq (.seq .no (.loop ⟨[54,55],[(14, .ref 53 [] 0),(8, .ref 8 [] 0)],[(56,(.int .i64))],[(53,92,(.st (.pr l_ Lg))),(8,30,(.st bJ))],[]⟩ (.one (.ext 0) ⟨[],[(8, .ref 8 [] 0),(14, .ref 53 [] 0)],[],[(8,30,(.st bJ)),(53,92,(.st (.pr l_ Lg)))],[]⟩) .no)) (.seq (.join (.one .aM ⟨[],[(8, .ref 8 [] 0),(14, .ref 53 [] 0)],[],[(8,30,(.st bJ)),(53,92,(.st (.pr l_ (.pr (.int .i64) (.pr (.st (.pr (.sl (.sl (.st ax))) UR)) Tg)))))],[]⟩) .no) .no)))))))) [.cell 8 30, .tmp 9] (.bq kg (.bq pQ (.bq xy (.bq oC (.bq p_ (.bq xh .nil)))))) (fun z=>by kernel_rfl) (by kernel_rfl)
end Go.Fn
open Go Go.Lf
set_option maxRecDepth 10000
namespace Go.Fn
noncomputable def iX (a0:List ((List (UInt8))×Uj)) (a1:(Int)×((Int)×(Unit))) (a2:Int):Option ((Int)×((Int)×(Unit))):=
 bif (decide (a2<(0:Int))) then some a1
 else ((Lf.idx a0 a2)).bind fun r1=>
 ((Go.Fn.gJ a0 r1.1)).bind fun r2=>
 ((Go.Fn.gK a1 r2.1)).bind fun r3=>
 some r3
noncomputable def nX:Nat×Lf.Entry:=(11,⟨[.val l_, .val (.st bM), .val (.int .i64)],[(.st bM)],fun z=>iX z.1 z.2.1 z.2.2⟩)
theorem vO:Lf.aa Go.Proofs.Tryz.prog GG 11 nX.2:=Kx Go.Proofs.Tryz.f11 25 [j4,jZ] [] [] [] .no [.cell 6 39] (.bq pR (.bq o9 .nil)) (fun z=>by kernel_rfl) (by kernel_rfl)
noncomputable def dB (a0:List ((List (UInt8))×Uj)) (a1:List ((Int)×((Int)×((List (UInt8))×((List (Int))×(Unit)))))) (a2:Int) (a3:Int):Option (Bool):=
 (Go.Fn.m_).bind fun r1=>
 bif (!r1) then some false
 else (bif (!(decide ((3000:Int)<(((List.length a1):Nat):Int)))) then ((Go.Fn.kQ a1)).bind fun r2=>
  some (!r2)
  else some true).bind fun r3=>
 bif r3 then some true
 else ((Go.Fn.kP a1)).bind fun r4=>
 ((Go.Fn.kF a0 r4 a2 a3)).bind fun r5=>
 (bif (!(decide ((r5.2:Int)≠(0:Int)))) then some (r5.1.2.2.2.1,r5.1)
  else some (true,r5.1)).bind fun r6=>
 bif r6.1 then some true
 else ((Go.Fn.jf a0 a1 a2 a3)).bind fun r7=>
 bif (decide ((r7.2:Int)≠(0:Int))) then some false
 else (Go.Fn.gT).bind fun r8=>
 (Lf.aG (σ:=(List ((Int)×((Int)×(Unit))))×((List ((Int)×((Int)×(Unit))))×((Int)×iI))) (κ:=(List ((Int)×((Int)×(Unit))))×iI) (fun z9=>
   bif (decide (z9.2.2.1<(((List.length a1):Nat):Int))) then (((Lf.idx a1 z9.2.2.1)).bind fun r10=>
    bif (decide ((r10.1:Int)=(1:Int))) then ((Go.Fn.dQ r10.2.2.1)).bind fun r11=>
    (Lf.aG (σ:=(Int)×((List ((Int)×((Int)×(Unit))))×PL)) (κ:=(List ((Int)×((Int)×(Unit))))×PL) (fun z12=>
      bif (decide (z12.1<(((List.length r11):Nat):Int))) then (((Lf.idx r11 z12.1)).bind fun r13=>
       bif (decide ((r13.1:List (UInt8))≠((32:UInt8)::([]:List (UInt8))))) then ((Lf.lG (List.length z12.2.1) (Go.IntKind.wrap .i64 ((((List.length z12.2.1):Nat):Int) - (1:Int))))).bind fun r14=>
       ((Lf.nth z12.2.1 r14)).bind fun r15=>
       ((Lf.app (16:Nat) z12.2.2.1 (r15::([]:List ((Int)×((Int)×(Unit))))))).bind fun r16=>
       some (z12.2.1,(r16,z12.2.2.2))
       else some z12.2).bind fun r17=>
      some (.inl ((Go.IntKind.wrap .i64 (z12.1+(1:Int))),r17))
      else some (.inr z12.2)) ((0:Int),(Lf.u2 z9 z9.2.2.2)):Option ((List ((Int)×((Int)×(Unit))))×PL)).bind fun r18=>
    some r18
    else (bif (decide ((r10.1:Int)=(2:Int))) then some ((decide ((r10.1:Int)=(2:Int))),(z9.2.1,(z9.1,(z9.2.2.2,r10))))
     else some ((decide ((r10.1:Int)=(8:Int))),(z9.2.1,(z9.1,(z9.2.2.2,r10))))).bind fun r19=>
    bif r19.1 then ((Lf.lG (List.length r19.2.2.1) (Go.IntKind.wrap .i64 ((((List.length r19.2.2.1):Nat):Int) - (1:Int))))).bind fun r20=>
    ((Lf.nth r19.2.2.1 r20)).bind fun r21=>
    ((Go.Fn.iX a0 r21 r19.2.2.2.2.2.1)).bind fun r22=>
    ((Lf.app (16:Nat) r19.2.2.1 (r22::([]:List ((Int)×((Int)×(Unit))))))).bind fun r23=>
    some (r23,(r19.2.1,r19.2.2.2.1))
    else (bif (decide ((r10.1:Int)=(3:Int))) then some ((decide ((r10.1:Int)=(3:Int))),(Lf.u2 r19.2 r19.2.2.2.1))
     else some ((decide ((r10.1:Int)=(4:Int))),(Lf.u2 r19.2 r19.2.2.2.1))).bind fun r24=>
    bif r24.1 then ((Lf.lG (List.length r24.2.2.1) (Go.IntKind.wrap .i64 ((((List.length r24.2.2.1):Nat):Int) - (1:Int))))).bind fun r25=>
    ((Lf.nth r24.2.2.1 r25)).bind fun r26=>
    ((Lf.app (16:Nat) r24.2.2.1 (r26::([]:List ((Int)×((Int)×(Unit))))))).bind fun r27=>
    some (r27,(r24.2.1,r24.2.2.2))
    else (bif (decide ((r10.1:Int)=(5:Int))) then some ((decide ((r10.1:Int)=(5:Int))),r24.2)
     else some ((decide ((r10.1:Int)=(9:Int))),r24.2)).bind fun r28=>
    bif r28.1 then ((Lf.sub r28.2.2.1 (0:Int) (Go.IntKind.wrap .i64 ((((List.length r28.2.2.1):Nat):Int) - (1:Int))))).bind fun r29=>
    some (r29,(r28.2.1,r28.2.2.2))
    else some (r28.2.2.1,(r28.2.1,r28.2.2.2)):Option ((List ((Int)×((Int)×(Unit))))×PL)).bind fun r30=>
   some (.inl (Lf.u2 r30 ((Go.IntKind.wrap .i64 (z9.2.2.1+(1:Int))),r30.2.2)))
   else some (.inr (z9.2.1,z9.2.2.2))) ((r8::([]:List ((Int)×((Int)×(Unit))))),(([]:List ((Int)×((Int)×(Unit)))),((0:Int),r6.2))):Option PL).bind fun r31=>
 (Lf.aG (σ:=(Int)×((List ((Int)×((Int)×(Unit))))×(Int))) (κ:=((List ((Int)×((Int)×(Unit))))×(Int))⊕(Bool)) (fun z32=>
   bif (decide (z32.2.2<(((List.length r31.2.1):Nat):Int))) then ((Lf.idx r31.2.1 z32.2.2)).bind fun r33=>
   (Lf.aG (σ:=(Int)×((Int)×(List ((Int)×((Int)×(Unit)))))) (κ:=((Int)×(List ((Int)×((Int)×(Unit)))))⊕(Bool)) (fun z34=>
     bif (decide (z34.1<(((List.length r33):Nat):Int))) then (((Lf.idx r33 z34.1)).bind fun r35=>
      bif (decide ((r35.1:List (UInt8))=((32:UInt8)::([]:List (UInt8))))) then some (.inl z34.2)
      else (bif (!(decide ((((List.length z34.2.2):Nat):Int)≤z34.2.1))) then ((Lf.idx z34.2.2 z34.2.1)).bind fun r36=>
       some ((!(bif (decide ((r35.2.2.1.1:Int)=r36.1)) then (bif (decide ((r35.2.2.1.2.1:Int)=r36.2.1)) then true else false) else false)),z34.2.2)
       else some (true,z34.2.2)).bind fun r37=>
      bif r37.1 then some (.inr false)
      else some (.inl ((Go.IntKind.wrap .i64 (z34.2.1+(1:Int))),r37.2)):Option (((Int)×(List ((Int)×((Int)×(Unit)))))⊕(Bool))).bind fun r38=>
     Lf.bC r38 (fun a39=>
     some (.inl ((Go.IntKind.wrap .i64 (z34.1+(1:Int))),a39))) (fun b40=>
     some (.inr (.inr b40)))
     else some (.inr (.inl z34.2))) ((0:Int),(z32.1,z32.2.1)):Option (((Int)×(List ((Int)×((Int)×(Unit)))))⊕(Bool))).bind fun r41=>
   Lf.bC r41 (fun a42=>
   some (.inl (a42.1,(a42.2,(Go.IntKind.wrap .i64 (z32.2.2+(1:Int))))))) (fun b43=>
   some (.inr (.inr b43)))
   else some (.inr (.inl (z32.2.1,z32.1)))) ((0:Int),(r31.1,(0:Int))):Option (((List ((Int)×((Int)×(Unit))))×(Int))⊕(Bool))).bind fun r44=>
 Lf.bC r44 (fun a45=>
 some (decide ((a45.2:Int)=(((List.length a45.1):Nat):Int)))) (fun b46=>
 some b46)
noncomputable def dH:Nat×Lf.Entry:=(3,⟨[.val l_, .val (.sl (.st dY)), .val (.int .i64), .val (.int .i64)],[.bool],fun z=>dB z.1 z.2.1 z.2.2.1 z.2.2.2⟩)
theorem rX:Lf.aa Go.Proofs.Tryz.prog GG 3 dH.2:=Kx Go.Proofs.Tryz.f3 166 [pE,qO,mY,rU,nT,gH,ko,nX] [13,14,82,95,111,60,107,119,127] [] [(13,(.rw 39 (.st bM))),(14,(.mr 39 (.st bM))),(60,(.mr 39 (.st bM))),(82,(.rw 39 (.st bM))),(95,(.rw 39 (.st bM))),(107,(.mr 39 (.st bM))),(111,(.rw 39 (.st bM))),(119,(.mr 39 (.st bM))),(127,(.mr 39 (.st bM)))] (.seq .no (.seq .no (.seq (.seq (.join (.one .aM ⟨[0,1,3,2],[],[(33, .bool)],[],[]⟩) .no) .no) (.seq .no (.seq (.seq (.join (.one .aM ⟨[0,1,3,2],[(9, .ref 9 [] 0)],[(48, .bool)],[(9,30,(.st bJ))],[]⟩) .no) .no) (.seq .no (.seq .no (.seq .no (.seq (.seq .no (.loop ⟨[0,61,62],[(9, .ref 9 [] 0)],[(14,(.mr 39 (.st bM))),(13,(.rw 39 (.st bM))),(63,(.int .i64))],[(9,30,(.st bJ))],[]⟩ (.one (.ext 0) ⟨[],[(9, .ref 9 [] 0)],[(13,(.rw 39 (.st bM)))],[(9,30,(.st bJ))],[]⟩) (.seq .no (.seq .no (.seq (.join (.one .aM ⟨[0,61,62,63],[(9, .ref 9 [] 0)],[(14,(.mr 39 (.st bM))),(13,(.rw 39 (.st bM)))],[(9,30,(.st bJ))],[]⟩) (.seq .no (.seq .no (.seq .no (.cnd (.seq .no (.loop ⟨[73,0,61,62,63,74],[(9, .ref 9 [] 0)],[(75,(.int .i64)),(14,(.mr 39 (.st bM))),(13,(.rw 39 (.st bM)))],[(9,30,(.st bJ))],[]⟩ (.one (.ext 3) ⟨[0,61,62,63],[(9, .ref 9 [] 0)],[(14,(.mr 39 (.st bM))),(13,(.rw 39 (.st bM)))],[(9,30,(.st bJ))],[]⟩) (.seq .no (.seq .no (.seq (.join (.one .aM ⟨[73,0,61,62,63,74,75],[(9, .ref 9 [] 0)],[(14,(.mr 39 (.st bM))),(13,(.rw 39 (.st bM)))],[(9,30,(.st bJ))],[]⟩) .no) .no))))) (.seq (.join (.one .aM ⟨[0,61,62,63,68],[(9, .ref 9 [] 0),(16, .ref 16 [] 0)],[(92, .bool),(13,(.rw 39 (.st bM))),(14,(.mr 39 (.st bM)))],[(9,30,(.st bJ)),(16,44,(.st dY))],[]⟩) .no) (.cnd (.draw 11) (.seq (.join (.one .aM ⟨[0,61,62,63,68],[(9, .ref 9 [] 0)],[(108, .bool),(13,(.rw 39 (.st bM))),(14,(.mr 39 (.st bM)))],[(9,30,(.st bJ))],[]⟩) .no) (.cnd .no (.seq (.join (.one .aM ⟨[0,61,62,63],[(9, .ref 9 [] 0)],[(120, .bool),(13,(.rw 39 (.st bM))),(14,(.mr 39 (.st bM)))],[(9,30,(.st bJ))],[]⟩) .no) .no)))))))))) .no))))) (.seq .no (.seq (.seq .no (.loop ⟨[130,131],[],[(19,(.int .i64)),(13,(.rw 39 (.st bM))),(132,(.int .i64))],[],[]⟩ (.more (.ext 5) ⟨[],[],[(13,(.rw 39 (.st bM))),(19,(.int .i64))],[],[]⟩ (.one .ret ⟨[],[],[(8, .bool)],[],[]⟩)) (.seq .no (.seq .no (.seq (.seq .no (.seq .no (.loop ⟨[136,130,131,132,137],[],[(138,(.int .i64)),(19,(.int .i64)),(13,(.rw 39 (.st bM)))],[],[]⟩ (.more (.ext 7) ⟨[130,131,132],[],[(19,(.int .i64)),(13,(.rw 39 (.st bM)))],[],[]⟩ (.one .ret ⟨[],[],[(8, .bool)],[],[]⟩)) (.seq .no (.seq .no (.seq (.join (.more .aM ⟨[136,130,131,132,137,138],[],[(19,(.int .i64)),(13,(.rw 39 (.st bM)))],[],[]⟩ (.one .ret ⟨[],[],[(8, .bool)],[],[]⟩)) (.seq .no (.seq .no (.seq (.seq (.join (.one .aM ⟨[136,130,131,132,137,138,19],[],[(157, .bool),(13,(.rw 39 (.st bM)))],[],[]⟩) (.draw 13)) .no) .no)))) .no)))))) .no))))) .no))))))))))) [.tmp 8] (.bq xm (.bq yP (.bq tQ (.bq yx (.bq vR (.bq kg (.bq pV (.bq vO .nil)))))))) (fun z=>by kernel_rfl) (by kernel_rfl)
end Go.Fn
/-
  Loops over lists, plainly.
-/
namespace Go.Lf
open Go
theorem wrap64 {x:Int} (h0: -9223372036854775808≤x) (h1:x≤9223372036854775807):IntKind.wrap .i64 x=x:=by
 simp only [IntKind.wrap]
 simp [IntKind.bits,IntKind.signed]
 omega
theorem aN {n:Nat} (h:n<9223372036854775807):IntKind.wrap .i64 ((n:Int)+1)=((n+1:Nat):Int):=by
 rw [wrap64 (by omega) (by omega)];omega
theorem zJ {α:Type} (l:List α) (i:Nat):idx l (i:Int)=l[i]? :=by
 unfold idx
 rw [if_pos (by omega)];rfl
theorem F4 {α:Type} {b:Nat} {l m:List α} (h:(l.length+m.length)*b≤140737488355328):app b l m=some (l++m):=if_pos h
theorem Uf {l m:List UInt8} (h:l.length+m.length≤9223372036854775807):cat l m=some (l++m):=if_pos h
section
variable {α σ κ:Type}
end
end Go.Lf
/-
  A small logic of answers: an answer is there, and has such a property; loops whose bound nothing reaches.
-/
namespace Go.Lf
open Go
def Ok {α:Type} (x:Option α) (Q:α→Prop):Prop:= ∃ k,x=some k∧Q k
section
variable {α β σ κ:Type}
theorem Ok.some {x:α} {Q:α→Prop} (h:Q x):Ok (some x) Q:=⟨x,rfl,h⟩
theorem Ok.of {x:Option α} {k:α} {Q:α→Prop} (hx:x=Option.some k) (h:Q k):Ok x Q:=⟨k,hx,h⟩
theorem Ok.bind {x:Option α} {f:α→Option β} {Q:α→Prop} {R:β→Prop} (h:Ok x Q) (hf: ∀ a,Q a→Ok (f a) R):Ok (x.bind f) R:=by
 obtain ⟨k,rfl,hk⟩:=h
 exact hf k hk
theorem Ok.imp {x:Option α} {Q R:α→Prop} (h:Ok x Q) (hf: ∀ a,Q a→R a):Ok x R:=by
 obtain ⟨k,rfl,hk⟩:=h
 exact ⟨k,rfl,hf k hk⟩
theorem Ok.and {x:Option α} {Q R:α→Prop} (h:Ok x Q) (h':Ok x R):Ok x fun a=>Q a∧R a:=by
 obtain ⟨k,rfl,hk⟩:=h
 obtain ⟨k',hk',hr⟩:=h'
 injection hk' with hk'
 subst hk'
 exact ⟨k,rfl,hk,hr⟩
theorem Ok.eq {x:Option α} {k:α} (h:Ok x (· =k)):x=Option.some k:=by
 obtain ⟨_,rfl,rfl⟩:=h
 rfl
theorem Ok.cond {b:Bool} {x y:Option α} {Q:α→Prop} (h:b=true→Ok x Q) (h':b=false→Ok y Q):Ok (cond b x y) Q:=by
 cases b
 ·exact h' rfl
 ·exact h rfl
theorem Ok.bC {d:α⊕β} {f:α→Option κ} {g:β→Option κ} {Q:κ→Prop} (h: ∀ a,d= .inl a→Ok (f a) Q) (h': ∀ b,d= .inr b→Ok (g b) Q):Ok (bC d f g) Q:=by
 cases d
 ·exact h _ rfl
 ·exact h' _ rfl
theorem Ok.UE {a:α} {f:α→Option κ} {g:β→Option κ} {Q:κ→Prop} (h:Ok (f a) Q):Ok (Lf.bC (.inl a) f g) Q:=h
def Nx {σ κ:Type} (I:σ→Prop) (Q:κ→Prop):σ⊕κ→Prop
 | .inl z=>I z
 | .inr k=>Q k
theorem G5 {B:σ→Option (σ⊕κ)} {Q:κ→Prop} (I:Nat→σ→Prop) (h: ∀ n z,I n z→Ok (B z) (Nx (fun z'=> ∃ m,m<n∧I m z') Q)): ∀ (N n:Nat) (z:σ),n<N→I n z→Ok (iter B N z) Q
 | 0,n,_,hn,_=>by omega
 | N+1,n,z,hn,hz=>by
  obtain ⟨d,hd,hq⟩:=h n z hz
  unfold iter
  rw [hd]
  cases d with
  | inl z'=>
   obtain ⟨m,hm,hi⟩:=hq
   exact G5 I h N m z' (by omega) hi
  | inr k=>exact ⟨k,rfl,hq⟩
theorem Ok.loop {B:σ→Option (σ⊕κ)} {Q:κ→Prop} (I:Nat→σ→Prop) (h: ∀ n z,I n z→Ok (B z) (Nx (fun z'=> ∃ m,m<n∧I m z') Q)) (n:Nat) (z:σ) (hn:n<4611686018427387904) (hz:I n z):Ok (aG B z) Q:=G5 I h _ n z hn hz
theorem Ok.range {α:Type} {B:Int×σ→Option ((Int×σ)⊕κ)} {Q:κ→Prop} (l:List α) (hl:l.length<4611686018427387904) (I:Nat→σ→Prop) (hstep: ∀ (i:Nat) x s,l[i]? =Option.some x→I i s→Ok (B ((i:Int),s)) (Nx (fun z=>z.1=((i+1:Nat):Int)∧I (i+1) z.2) Q))
  (hend: ∀ s,I l.length s→Ok (B ((l.length:Int),s)) (Nx (fun _=>False) Q)) {s:σ} (h0:I 0 s):Ok (aG B ((0:Int),s)) Q:=by
 refine Ok.loop (fun n z=> ∃ i:Nat,i+n=l.length∧z.1=(i:Int)∧I i z.2) (fun n z hz=>?_) l.length (0,s) hl ⟨0,by omega,rfl,h0⟩
 obtain ⟨i,hi,hz1,hz2⟩:=hz
 obtain ⟨z1,z2⟩:=z
 simp only at hz1 hz2
 subst hz1
 by_cases hlt:i<l.length
 ·refine (hstep i l[i] z2 (List.getElem?_eq_getElem hlt) hz2).imp fun d hd=>?_
  cases d with
  | inl z=>exact ⟨n - 1,by omega,i+1,by omega,hd.1,hd.2⟩
  | inr k=>exact hd
 ·have:i=l.length:=by omega
  subst this
  refine (hend z2 hz2).imp fun d hd=>?_
  cases d with
  | inl z=>exact hd.elim
  | inr k=>exact hd
theorem Ok.kr {α:Type} {B:Int→Option (Int⊕κ)} {Q:κ→Prop} (l:List α) (hl:l.length<4611686018427387904) (I:Nat→Prop) (hstep: ∀ (i:Nat) x,l[i]? =Option.some x→I i→Ok (B (i:Int)) (Nx (fun z=>z=((i+1:Nat):Int)∧I (i+1)) Q))
  (hend:I l.length→Ok (B (l.length:Int)) (Nx (fun _=>False) Q)) (h0:I 0):Ok (aG B (0:Int)) Q:=by
 refine Ok.loop (fun n z=> ∃ i:Nat,i+n=l.length∧z=(i:Int)∧I i) (fun n z hz=>?_) l.length 0 hl ⟨0,by omega,rfl,h0⟩
 obtain ⟨i,hi,rfl,hz2⟩:=hz
 by_cases hlt:i<l.length
 ·refine (hstep i l[i] (List.getElem?_eq_getElem hlt) hz2).imp fun d hd=>?_
  cases d with
  | inl z=>exact ⟨n - 1,by omega,i+1,by omega,hd.1,hd.2⟩
  | inr k=>exact hd
 ·have:i=l.length:=by omega
  subst this
  refine (hend hz2).imp fun d hd=>?_
  cases d with
  | inl z=>exact hd.elim
  | inr k=>exact hd
theorem Ok.idx {l:List α} {i:Nat} {x:α} {Q:α→Prop} (h:l[i]? =Option.some x) (hq:Q x):Ok (idx l (i:Int)) Q:=⟨x,by rw [zJ,h],hq⟩
theorem Ok.app {b:Nat} {l m:List α} {Q:List α→Prop} (h:(l.length+m.length)*b≤140737488355328) (hq:Q (l++m)):Ok (app b l m) Q:=⟨_,F4 h,hq⟩
theorem Ok.bH {l:List α} {i:Nat} {x:α} (h:l[i]? =Option.some x):Ok (Lf.idx l (i:Int)) (x= ·):=⟨x,by rw [zJ,h],rfl⟩
theorem Ok.jk {b:Nat} {l m:List α} (h:(l.length+m.length)*b≤140737488355328):Ok (Lf.app b l m) (· =l++m):=⟨_,F4 h,rfl⟩
theorem Ok.yes {p:Prop} [Decidable p] {x y:Option α} {Q:α→Prop} (hp:p) (h:Ok x Q):Ok (bif decide p then x else y) Q:=by rw [decide_eq_true hp];exact h
theorem Ok.no {p:Prop} [Decidable p] {x y:Option α} {Q:α→Prop} (hp: ¬ p) (h:Ok y Q):Ok (bif decide p then x else y) Q:=by rw [decide_eq_false hp];exact h
theorem Ok.ifs {p:Prop} [Decidable p] {x y:Option α} {Q:α→Prop} (h:p→Ok x Q) (h': ¬ p→Ok y Q):Ok (bif decide p then x else y) Q:=Ok.cond (fun e=>h (of_decide_eq_true e)) fun e=>h' (of_decide_eq_false e)
theorem Ok.inl {z:σ} {I:σ→Prop} {Q:κ→Prop} (h:I z):Ok (Option.some (Sum.inl z:σ⊕κ)) (Nx I Q):=⟨_,rfl,h⟩
theorem Ok.inr {k:κ} {I:σ→Prop} {Q:κ→Prop} (h:Q k):Ok (Option.some (Sum.inr k:σ⊕κ)) (Nx I Q):=⟨_,rfl,h⟩
theorem Ok.ends {x:Option α} {Q:α→Prop} (h:Ok x Q):Ok (x.bind fun r=>Option.some r) Q:=by
 obtain ⟨k,rfl,hk⟩:=h
 exact ⟨k,rfl,hk⟩
theorem Ok.sb {x:α} {f:α→Option β} {Q:β→Prop} (h:Ok (f x) Q):Ok ((Option.some x).bind f) Q:=h
theorem Ok.lG {n:Nat} {i:Int} {Q:Nat→Prop} (h0:0≤i) (h1:i<n) (hq:Q i.toNat):Ok (lG n i) Q:=⟨_,if_pos ⟨h0,h1⟩,hq⟩
theorem Ok.DK {n i:Nat} (h:i<n):Ok (Lf.lG n (i:Int)) (i= ·):=⟨i,by unfold Lf.lG;rw [if_pos (by omega)];rfl,rfl⟩
theorem Ok.nth {l:List α} {i:Nat} {Q:α→Prop} (h:i<l.length) (hq:Q l[i]):Ok (nth l i) Q:=⟨_,List.getElem?_eq_getElem h,hq⟩
theorem Ok.at_ {l:List α} {i:Int} {Q:α→Prop} (h0:0≤i) (h:i.toNat<l.length) (hq:Q l[i.toNat]):Ok (Lf.idx l i) Q:=⟨_,by unfold Lf.idx;rw [if_pos h0,List.getElem?_eq_getElem h],hq⟩
theorem Ok.sub {l:List α} {a b:Int} {Q:List α→Prop} (h0:0≤a) (h1:a≤b) (h2:b≤l.length) (hq:Q ((l.drop a.toNat).take (b.toNat - a.toNat))):Ok (Lf.sub l a b) Q:=⟨_,if_pos ⟨h0,h1,h2⟩,hq⟩
theorem Ok.nz {b x:Int} {Q:Int→Prop} (h:b≠0) (hq:Q x):Ok (Lf.nz b x) Q:=⟨_,if_neg h,hq⟩
theorem Ok.cat {l m:List UInt8} {Q:List UInt8→Prop} (h:l.length+m.length≤9223372036854775807) (hq:Q (l++m)):Ok (Lf.cat l m) Q:=⟨_,Uf h,hq⟩
end
end Go.Lf
/- The document's way to fill lines: it ends, and its lines are not too many nor too long. -/
namespace Go.Fn
open Go Go.Lf
abbrev Gx:Type:=List UInt8×(Int×((Int×(Int×Unit))×(Int×Unit)))
abbrev Fx:Type:=List (List Gx)×(List Gx×(Int×(List Gx×(Int×Unit))))
def Jo (g:Gx):Bool:=decide (g.1≠[32]) && (decide (g.1≠[9]) && decide (g.1≠[10]))
theorem Jj (g:Gx):iO g=some (Jo g):=by
 unfold iO Jo
 cases decide (g.1≠[32])<;>cases decide (g.1≠[9])<;>rfl
structure JG (n:Nat) (w:Int) (s:Fx):Prop where
 no:s.1.length≤2*n
 lo: ∀ x∈s.1,x.length≤10*n
 nl:s.2.1.length≤10*n
 lg:0≤s.2.2.1∧s.2.2.1≤20*n
 wt: ∀ g∈s.2.2.2.1,g.2.1=1
 wl:s.2.2.2.1.length≤1
 wd:s.2.2.2.2.1=w
theorem Aj {α:Type} {l:List α} {i:Nat} {x:α} (h:l[i]? =some x):i<l.length:=(List.getElem?_eq_some_iff.1 h).1
theorem rend_eq (s:Fx) (h:s.1.length≤4000000):aK s=some (s.1++[s.2.1],([],(0,([],s.2.2.2.2)))):=by
 unfold aK
 rw [F4 (by simp only [List.length_cons,List.length_nil];omega)]
 rfl
theorem Cr (s:Fx) (g:Gx) (h:s.2.1.length≤40000000):aY s g=some (s.1,(s.2.1++[g],(IntKind.wrap .i64 (s.2.2.1+g.2.1),s.2.2.2))):=by
 unfold aY
 rw [F4 (by simp only [List.length_cons,List.length_nil];omega)]
 rfl
theorem nY {n:Int} (h0:0≤n) (h1:n≤1000000000000):IntKind.wrap .i64 n=n:=wrap64 (by omega) (by omega)
theorem JG.end_ {n m:Nat} {w:Int} {s:Fx} (h:JG n w s) (hm:n<m):JG m w (s.1++[s.2.1],([],(0,([],s.2.2.2.2)))) where
 no:=by rw [List.length_append];have:=h.no;simp only [List.length_cons,List.length_nil];omega
 lo:=fun x hx=>by
  have hn:=h.nl
  rcases List.mem_append.1 hx with hx | hx
  ·have:=h.lo x hx;omega
  ·rw [List.mem_singleton.1 hx];omega
 nl:=by show 0≤_;omega
 lg:=⟨Int.le_refl _,by show (0:Int)≤_;omega⟩
 wt:=fun g hg=>by simp at hg
 wl:=by show 0≤1;omega
 wd:=h.wd
theorem Sd {n:Nat} {w:Int} {s:Fx} (g:Gx) (h:JG n w s) (hn:n≤1000000) (hw:w≤200):Ok (eU s g) (JG (n+1) w):=by
 obtain ⟨h1,h2,h3,⟨h4,h4'⟩,h5,h6,h7⟩:=h
 obtain ⟨out,line,long,wait,wd,⟨⟩⟩:=s
 dsimp only at h1 h2 h3 h4 h4' h5 h6 h7
 subst h7
 unfold eU
 have hd:Int.tdiv long 8=long / 8:=Int.tdiv_eq_ediv_of_nonneg h4
 refine Ok.bind (Ok.nz (Q:=(· =long / 8)) (by decide) (by show IntKind.wrap .i64 (Int.tdiv long 8)=_;rw [hd];exact nY (by omega) (by omega))) fun r1 hr1=>?_
 subst hr1
 have eN:IntKind.wrap .i64 (IntKind.wrap .i64 (long / 8+1)*8)=(long / 8+1)*8:=by
  rw [nY (n:=long / 8+1) (by omega) (by omega)]
  exact nY (by omega) (by omega)
 rw [eN]
 have eN1:long<(long / 8+1)*8:=by omega
 have eN2:(long / 8+1)*8≤long+8:=by omega
 generalize (long / 8+1)*8=N at eN1 eN2
 refine Ok.ifs (fun _=>?_) fun hN=>?_
 ·refine Ok.ends (Ok.of (rend_eq _ (by show out.length≤_;omega)) ?_)
  exact JG.end_ (n:=n) (s:=(out,(line,(long,([],(wd,())))))) ⟨h1,h2,h3,⟨h4,h4'⟩,fun g hg=>by simp at hg,by show 0≤1;omega,rfl⟩ (by omega)
 ·refine Ok.ends (Ok.loop (fun k (z:Gx×Fx)=> ∃ (ln:List Gx) (j:Nat),z=(g,(out,(ln,(long+j,([],(wd,()))))))∧long+j+k=N∧ln.length=line.length+j) (fun k z hz=>?_) (N - long).toNat _ (by omega) ⟨line,0,by show _=(_,(_,(_,(long+0,_))));rw [Int.add_zero],by omega,rfl⟩)
  obtain ⟨ln,j,rfl,e1,e2⟩:=hz
  refine Ok.ifs (fun hlt=>?_) fun hge=>Ok.inr ?_
  ·have hlt:long+(j:Int)<N:=hlt
   refine Ok.bind (Ok.of (Cr _ _ (by show ln.length≤_;omega)) rfl) fun r hr=>Ok.inl ⟨k - 1,by omega,ln++[([32],(1,g.2.2))],j+1,?_,by omega,by rw [List.length_append];simp only [List.length_cons,List.length_nil];omega⟩
   rw [← hr]
   show (g,(out,(_,(IntKind.wrap .i64 (long+(j:Int)+1),_))))=_
   rw [nY (by omega) (by omega)]
   have:long+(j:Int)+1=long+((j+1:Nat):Int):=by omega
   rw [this]
  ·have hge: ¬ long+(j:Int)<N:=hge
   exact ⟨by show out.length≤_;omega,fun x hx=>by have:=h2 x hx;omega,by show ln.length≤_;omega,⟨by show 0≤long+(j:Int);omega,by show long+(j:Int)≤_;omega⟩,fun g hg=>by simp at hg,by show 0≤1;omega,rfl⟩
theorem QG (l:List Gx) (hl:l.length≤1000000):Ok (kM l) fun _=>True:=by
 unfold kM
 refine Ok.ends (Ok.range l (by omega) (fun _ _=>True) (fun i x s hx _=>?_) (fun s _=>Ok.no (by show ¬ (l.length:Int)<_;omega) (Ok.inr trivial)) trivial)
 have hlt:=Aj hx
 exact Ok.yes (by show (i:Int)<_;omega) (Ok.bind (Ok.bH hx) fun y _=>Ok.inl ⟨aN (by omega),trivial⟩)
structure Rn (n j:Nat) (w:Int) (s:Fx):Prop where
 no:s.1.length≤2*n+1+j
 lo: ∀ x∈s.1,x.length≤10*n+1+j
 nl:s.2.1.length≤10*n+1+j
 lg:0≤s.2.2.1∧s.2.2.1≤20*n+1+2*j
 wt:s.2.2.2.1=[]
 wd:s.2.2.2.2.1=w
theorem Rn.Zj {n j:Nat} {w:Int} {s:Fx} (h:Rn n j w s) (hj:1≤j):JG (n+j) w s:=
 ⟨by have:=h.no;omega,fun x hx=>by have:=h.lo x hx;omega,by have:=h.nl;omega,by have:=h.lg;omega,fun g hg=>by rw [h.wt] at hg;simp at hg,by rw [h.wt];show 0≤1;omega,h.wd⟩
theorem JG.toW {n:Nat} {w:Int} {s:Fx} (h:JG n w s):Rn n 0 w (s.1,(s.2.1,(s.2.2.1,([],s.2.2.2.2)))):=
 ⟨by have:=h.no;show s.1.length≤_;omega,fun x hx=>by have:=h.lo x hx;omega,by have:=h.nl;show s.2.1.length≤_;omega,by have:=h.lg;show 0≤s.2.2.1∧s.2.2.1≤_;omega,rfl,h.wd⟩
theorem QJ {n:Nat} {w:Int} {s:Fx} (l:List Gx) (h:JG n w s) (hn:n≤1000000) (hl:l.length≤1000000) (hl1:1≤l.length) (hg: ∀ g∈l,1≤g.2.1∧g.2.1≤2):Ok (eD s l) (JG (n+l.length) w):=by
 unfold eD
 refine Ok.bind (QG l hl) fun r1 _=>?_
 have hW:=h.toW
 obtain ⟨h1,h2,h3,⟨h4,h4'⟩,h5,h6,h7⟩:=h
 refine Ok.cond (fun _=>?_) fun _=>?_
 ·refine Ok.bind (Q:=Rn n 0 w) (Ok.ifs (fun hpos=>?_) fun hz=>Ok.some ?_) fun r4 hr4=>?_
  ·have hpos:(0:Int)<(s.2.2.2.1.length:Int):=hpos
   have hx:s.2.2.2.1[0]? =some s.2.2.2.1[0]:=List.getElem?_eq_getElem (by omega)
   have hx1:=h5 _ (List.getElem_mem (show 0<s.2.2.2.1.length by omega))
   generalize s.2.2.2.1[0]=g0 at hx hx1
   refine Ok.bind (Ok.bH (i:=0) hx) fun y hy=>?_
   subst hy
   refine Ok.bind (Ok.of (Cr s g0 (by omega)) rfl) fun r3 hr3=>Ok.some ?_
   rw [← hr3]
   refine ⟨by show s.1.length≤_;omega,fun x hx=>by have:=h2 x hx;omega,?_,?_,rfl,h7⟩
   ·show (s.2.1++[g0]).length≤_
    rw [List.length_append];simp only [List.length_cons,List.length_nil];omega
   ·show 0≤IntKind.wrap .i64 (s.2.2.1+g0.2.1)∧IntKind.wrap .i64 (s.2.2.1+g0.2.1)≤_
    rw [hx1,nY (by omega) (by omega)]
    omega
  ·have hz: ¬ (0:Int)<(s.2.2.2.1.length:Int):=hz
   have e:s.2.2.2.1=[]:=List.eq_nil_of_length_eq_zero (by omega)
   rw [show s=(s.1,(s.2.1,(s.2.2.1,(s.2.2.2.1,s.2.2.2.2)))) from rfl,e]
   exact hW
  ·refine Ok.ends ((Ok.range l (by omega) (fun j st=>Rn n j w st) (fun j g st hgj hst=>?_) (fun st hst=>?_) hr4).imp fun r hr=>Rn.Zj hr hl1)
   ·have hlt:=Aj hgj
    have hgg:=hg g (List.mem_of_getElem? hgj)
    obtain ⟨q1,q2,q3,⟨q4,q4'⟩,q5,q6⟩:=hst
    refine Ok.yes (by show (j:Int)<_;omega) (Ok.bind (Ok.bH hgj) fun y hy=>?_)
    subst hy
    refine Ok.bind (Ok.of (Cr st g (by omega)) rfl) fun r hr=>Ok.inl ⟨aN (by omega),?_⟩
    rw [← hr]
    refine ⟨by show st.1.length≤_;omega,fun x hx=>by have:=q2 x hx;omega,?_,?_,q5,q6⟩
    ·show (st.2.1++[g]).length≤_
     rw [List.length_append];simp only [List.length_cons,List.length_nil];omega
    ·show 0≤IntKind.wrap .i64 (st.2.2.1+g.2.1)∧IntKind.wrap .i64 (st.2.2.1+g.2.1)≤_
     rw [nY (by omega) (by omega)]
     omega
   ·exact Ok.no (by show ¬ (l.length:Int)<_;omega) (Ok.inr hst)
 ·refine Ok.bind (Q:=fun r=>Rn n 0 w (r.1,(r.2.1,(r.2.2.1,([],r.2.2.2.2))))) (Ok.ifs (fun _=>Ok.ends (Ok.of (rend_eq s (by omega)) ?_)) fun _=>Ok.some hW) fun r10 hr10=>?_
  ·refine ⟨?_,fun x hx=>?_,by show 0≤_;omega,by show (0:Int)≤0∧(0:Int)≤_;omega,rfl,h7⟩
   ·show (s.1++[s.2.1]).length≤_
    rw [List.length_append];simp only [List.length_cons,List.length_nil];omega
   ·rcases List.mem_append.1 hx with hx | hx
    ·have:=h2 x hx;omega
    ·rw [List.mem_singleton.1 hx];omega
  ·refine Ok.ends ((Ok.range l (by omega) (fun j st=>Rn n j w st) (fun j g st hgj hst=>?_) (fun st hst=>?_) hr10).imp fun r hr=>Rn.Zj hr hl1)
   ·have hlt:=Aj hgj
    have hgg:=hg g (List.mem_of_getElem? hgj)
    obtain ⟨q1,q2,q3,⟨q4,q4'⟩,q5,q6⟩:=hst
    refine Ok.yes (by show (j:Int)<_;omega) (Ok.bind (Q:=fun st:Fx=>st.1.length≤2*n+1+(j+1)∧(∀ x∈st.1,x.length≤10*n+1+j)∧st.2.1.length≤10*n+1+j∧(0≤st.2.2.1∧st.2.2.1≤20*n+1+2*j)∧st.2.2.2.1=[]∧st.2.2.2.2.1=w) (Ok.bind (Ok.bH hgj) fun y hy=>Ok.ifs (fun _=>Ok.ends (Ok.of (rend_eq st (by omega)) ?_)) fun _=>Ok.some ⟨by show st.1.length≤_;omega,q2,q3,⟨q4,q4'⟩,q5,q6⟩) fun r14 hr14=>?_)
    ·refine ⟨?_,fun x hx=>?_,by show 0≤_;omega,by show (0:Int)≤0∧(0:Int)≤_;omega,rfl,q6⟩
     ·show (st.1++[st.2.1]).length≤_
      rw [List.length_append];simp only [List.length_cons,List.length_nil];omega
     ·rcases List.mem_append.1 hx with hx | hx
      ·exact q2 x hx
      ·rw [List.mem_singleton.1 hx];exact q3
    ·obtain ⟨p1,p2,p3,⟨p4,p4'⟩,p5,p6⟩:=hr14
     refine Ok.bind (Ok.bH hgj) fun y hy=>?_
     subst hy
     refine Ok.bind (Ok.of (Cr r14 g (by omega)) rfl) fun r hr=>Ok.inl ⟨aN (by omega),?_⟩
     rw [← hr]
     refine ⟨by show r14.1.length≤_;omega,fun x hx=>by have:=p2 x hx;omega,?_,?_,p5,p6⟩
     ·show (r14.2.1++[g]).length≤_
      rw [List.length_append];simp only [List.length_cons,List.length_nil];omega
     ·show 0≤IntKind.wrap .i64 (r14.2.2.1+g.2.1)∧IntKind.wrap .i64 (r14.2.2.1+g.2.1)≤_
      rw [nY (by omega) (by omega)]
      omega
   ·exact Ok.no (by show ¬ (l.length:Int)<_;omega) (Ok.inr hst)
theorem PW (l:List Gx) (w:Int) (hl:l.length≤500000):Ok (kN l w) fun r=>r.1.length≤2*l.length+1∧ ∀ x∈r.1,x.length≤10*l.length:=by
 unfold kN
 refine Ok.bind (Q:=fun b=>b=false→1≤w∧w≤200) ?_ fun b hb=>Ok.cond (fun _=>Ok.some ⟨by show 0≤_;omega,fun x hx=>by simp at hx⟩) fun hbf=>?_
 ·cases h1:decide (w<1) with
  | true=>exact Ok.some fun h=>by cases h
  | false=>exact Ok.some fun h=>by have:=of_decide_eq_false h;have:=of_decide_eq_false h1;omega
 obtain ⟨hw1,hw2⟩:=hb hbf
 refine Ok.bind (Q:=fun d:Unit⊕(List (List Gx)×Int)=>d= .inl ()∧(∀ g∈l,Jo g=true→1≤g.2.1∧g.2.1≤2)∨ ∃ n,d= .inr ([],n)) ?_ fun d hd=>?_
 ·refine Ok.kr l (by omega) (fun n=> ∀ (i:Nat) g,i<n→l[i]? =some g→Jo g=true→1≤g.2.1∧g.2.1≤2) (fun i g hg hI=>?_) (fun hI=>?_) (fun i g h=>by omega)
  ·have hlt:=Aj hg
   refine Ok.yes (by omega) (Ok.bind (Q:=fun b=>b=false→Jo g=true→1≤g.2.1∧g.2.1≤2) (Ok.bind (Ok.bH hg) fun y hy=>?_) fun b hb=>Ok.cond (fun _=>Ok.inr (.inr ⟨_,rfl⟩)) fun hbf=>Ok.inl ⟨aN (by omega),fun j y hj hy=>?_⟩)
   ·subst hy
    rw [Jj,Option.bind_some]
    refine Ok.cond (fun _=>Ok.bind (Ok.bH hg) fun y hy=>?_) fun h=>Ok.some fun _ h'=>by rw [h] at h';cases h'
    subst hy
    cases h1:decide (g.2.1<1) with
    | true=>exact Ok.some fun h=>by cases h
    | false=>
     refine Ok.bind (Ok.bH hg) fun y hy=>?_
     subst hy
     cases h2:decide (2<g.2.1) with
     | true=>exact Ok.some fun h=>by cases h
     | false=>
      have h1:=of_decide_eq_false h1
      have h2:=of_decide_eq_false h2
      exact Ok.bind (Ok.bH hg) fun y hy=>Ok.some fun _ _=>by omega
   ·by_cases hji:j=i
    ·subst hji
     rw [hg] at hy
     injection hy with hy
     rw [← hy];exact hb hbf
    ·exact hI j y (by omega) hy
  ·refine Ok.no (by omega) (Ok.inr (.inl ⟨rfl,fun g hg=>?_⟩))
   obtain ⟨i,hi,hie⟩:=List.getElem_of_mem hg
   exact hI i g hi (by rw [List.getElem?_eq_getElem hi,hie])
 ·rcases hd with ⟨rfl,hS⟩ | ⟨n,rfl⟩
  case inr=>exact Ok.some ⟨by show 0≤_;omega,fun x hx=>by simp at hx⟩
  refine Ok.UE (Ok.bind (Q:=JG l.length w) ?_ fun r26 hr26=>?_)
  ·refine Ok.loop (fun k (z:Int×Fx)=> ∃ i:Nat,i+k=l.length∧z.1=(i:Int)∧JG i w z.2) (fun k z hz=>?_) l.length _ (by omega) ⟨0,by omega,rfl,⟨by show 0≤_;omega,fun x hx=>by simp at hx,by show 0≤_;omega,by show (0:Int)≤0∧(0:Int)≤_;omega,fun x hx=>by simp at hx,by show 0≤1;omega,rfl⟩⟩
   obtain ⟨zi,st⟩:=z
   obtain ⟨i,hi,hz1,hst⟩:=hz
   dsimp only at hz1 hst ⊢
   subst hz1
   refine Ok.ifs (fun hlt=>?_) fun hge=>Ok.inr ?_
   case refine_2=>
    have hge: ¬ (i:Int)<(l.length:Int):=hge
    have:i=l.length:=by omega
    rw [← this];exact hst
   have hlt:(i:Int)<(l.length:Int):=hlt
   have hx:l[i]? =some (l[i]'(by omega)):=List.getElem?_eq_getElem (by omega)
   have hxs:=hS _ (List.getElem_mem (show i<l.length by omega))
   generalize l[i]'(by omega)=g at hx hxs
   refine Ok.bind (Q:=fun r:Int×Fx=> ∃ m:Nat,i≤m∧m<l.length∧r.1=(m:Int)∧JG (m+1) w r.2) ?_ fun r25 hr25=>?_
   case refine_2=>
    obtain ⟨m,hm1,hm2,hm3,hm4⟩:=hr25
    refine Ok.inl ⟨l.length - (m+1),by omega,m+1,by omega,?_,hm4⟩
    show IntKind.wrap .i64 (r25.1+1)=_
    rw [hm3,aN (by omega)]
   have up:JG (i+1) w st:=⟨by have:=hst.no;omega,fun x hx=>by have:=hst.lo x hx;omega,by have:=hst.nl;omega,by have:=hst.lg;omega,hst.wt,hst.wl,hst.wd⟩
   refine Ok.bind (Ok.bH hx) fun y hy=>?_
   subst hy
   refine Ok.ifs (fun h32=>?_) fun h32=>Ok.ifs (fun h9=>?_) fun h9=>Ok.ifs (fun h10=>?_) fun h10=>?_
   ·refine Ok.bind (Q:=fun r:Bool×(Fx×Gx)=>r.2=(st,g)) (Ok.cond (fun _=>Ok.some rfl) fun _=>Ok.some rfl) fun r13 hr13=>?_
    obtain ⟨b13,r13⟩:=r13
    dsimp only at hr13
    subst hr13
    refine Ok.cond (fun _=>Ok.some ⟨i,Nat.le_refl _,by omega,rfl,?_⟩) fun _=>Ok.some ⟨i,Nat.le_refl _,by omega,rfl,up⟩
    exact ⟨up.no,up.lo,up.nl,up.lg,fun y hy=>by rw [List.mem_singleton.1 hy],Nat.le_refl _,up.wd⟩
   ·exact Ok.bind (Sd g hst (by omega) hw2) fun r hr=>Ok.some ⟨i,Nat.le_refl _,by omega,rfl,hr⟩
   ·have hno:=hst.no
    refine Ok.bind (Ok.of (rend_eq _ (by show st.1.length≤_;omega)) rfl) fun r hr=>Ok.some ⟨i,Nat.le_refl _,by omega,rfl,?_⟩
    rw [← hr]
    exact JG.end_ (n:=i) (s:=(st.1,(st.2.1,(st.2.2.1,([],st.2.2.2.2))))) ⟨hst.no,hst.lo,hst.nl,hst.lg,fun g hg=>by simp at hg,by show 0≤1;omega,hst.wd⟩ (by omega)
   ·have hsg:Jo g=true:=by
     unfold Jo
     rw [decide_eq_true (show g.1≠[32] from h32),decide_eq_true (show g.1≠[9] from h9),decide_eq_true (show g.1≠[10] from h10)];rfl
    refine Ok.bind (Q:=fun r:List Gx×(Int×Fx)=> ∃ m:Nat,i<m∧m≤l.length∧r.1.length=m - i∧(∀ g∈r.1,1≤g.2.1∧g.2.1≤2)∧r.2=((m:Int),st)) ?_ fun r23 hr23=>?_
    ·refine Ok.loop (fun k (z:Int×(List Gx×Fx))=> ∃ m:Nat,i≤m∧m+k=l.length∧z.1=(m:Int)∧z.2.1.length=m - i∧(∀ g∈z.2.1,1≤g.2.1∧g.2.1≤2)∧z.2.2=st) (fun k z hz=>?_) (l.length - i) _ (by omega) ⟨i,Nat.le_refl _,by omega,rfl,by simp,fun g hg=>by simp at hg,rfl⟩
     obtain ⟨zm,ws,st'⟩:=z
     obtain ⟨m,hm1,hm2,hm3,hm4,hm5,hm6⟩:=hz
     dsimp only at hm3 hm4 hm5 hm6 ⊢
     subst hm3 hm6
     refine Ok.bind (Q:=fun r:Bool×(List Gx×Fx)=>r.2=(ws,st')∧(r.1=true→ ∃ x,l[m]? =some x∧Jo x=true)∧(r.1=false→i<m)) ?_ fun r19 hr19=>?_
     ·refine Ok.ifs (fun hlt2=>?_) fun hge=>Ok.some ⟨rfl,fun h=>(by cases h),fun _=>by have hge: ¬ (m:Int)<(l.length:Int):=hge;omega⟩
      have hlt2:(m:Int)<(l.length:Int):=hlt2
      have hxm:l[m]? =some (l[m]'(by omega)):=List.getElem?_eq_getElem (by omega)
      generalize l[m]'(by omega)=gm at hxm
      refine Ok.bind (Ok.bH hxm) fun y hy=>?_
      subst hy
      rw [Jj,Option.bind_some]
      refine Ok.some ⟨rfl,fun h=>⟨gm,hxm,h⟩,fun h=>?_⟩
      by_cases hmi:m=i
      ·subst hmi
       rw [hx] at hxm
       injection hxm with hxm
       rw [← hxm,hsg] at h
       cases h
      ·omega
     ·obtain ⟨b19,r19⟩:=r19
      obtain ⟨he,ht,hf⟩:=hr19
      dsimp only at he ht hf ⊢
      subst he
      refine Ok.cond (fun hb=>?_) fun hb=>Ok.inr ⟨m,hf hb,by omega,hm4,hm5,rfl⟩
      obtain ⟨gm,hgm,hsm⟩:=ht hb
      have hml:=Aj hgm
      have hgw:=hS gm (List.mem_of_getElem? hgm) hsm
      refine Ok.bind (Ok.bH hgm) fun y hy=>?_
      subst hy
      refine Ok.bind (Q:=fun r:List Gx×(Fx×Gx)=>r.1=ws∧r.2.1=st'∧1≤r.2.2.2.1∧r.2.2.2.1≤2) (Ok.cond (fun _=>Ok.some ⟨rfl,rfl,by show (1:Int)≤1;omega,by show (1:Int)≤2;omega⟩) fun _=>Ok.some ⟨rfl,rfl,hgw.1,hgw.2⟩) fun r21 hr21=>?_
      obtain ⟨r21a,r21b,r21c⟩:=r21
      obtain ⟨e1,e2,e3,e4⟩:=hr21
      dsimp only at e1 e2 e3 e4 ⊢
      subst e1 e2
      refine Ok.bind (Ok.jk (by simp only [List.length_cons,List.length_nil];omega)) fun r22 hr22=>?_
      subst hr22
      refine Ok.inl ⟨l.length - (m+1),by omega,m+1,by omega,by omega,aN (by omega),?_,fun g hg=>?_,rfl⟩
      ·show (r21a++[r21c]).length=_
       rw [List.length_append];simp only [List.length_cons,List.length_nil];omega
      ·rcases List.mem_append.1 hg with hg | hg
       ·exact hm5 g hg
       ·rw [List.mem_singleton.1 hg];exact ⟨e3,e4⟩
    ·obtain ⟨ws,mm,st'⟩:=r23
     obtain ⟨m,hm1,hm2,hm3,hm4,hm5⟩:=hr23
     dsimp only at hm3 hm4 hm5 ⊢
     injection hm5 with hm5 hm6
     subst hm5 hm6
     refine Ok.bind (QJ ws hst (by omega) (by omega) (by omega) hm4) fun r24 hr24=>Ok.some ⟨m - 1,by omega,by omega,?_,?_⟩
     ·show IntKind.wrap .i64 ((m:Int) - 1)=_
      rw [nY (by omega) (by omega)];omega
     ·have:i+ws.length=m - 1+1:=by omega
      rw [← this];exact hr24
  ·refine Ok.bind (Q:=fun r:Fx=>r.1.length≤2*l.length+1∧ ∀ x∈r.1,x.length≤10*l.length) ?_ fun r hr=>Ok.some hr
   have hno:=hr26.no
   have hnl:=hr26.nl
   refine Ok.ifs (fun _=>Ok.ends (Ok.of (rend_eq _ (by omega)) ⟨?_,fun x hx=>?_⟩)) fun _=>Ok.some ⟨by omega,hr26.lo⟩
   ·show (r26.1++[r26.2.1]).length≤_
    rw [List.length_append];simp only [List.length_cons,List.length_nil];omega
   ·rcases List.mem_append.1 hx with hx | hx
    ·exact hr26.lo x hx
    ·rw [List.mem_singleton.1 hx];exact hnl
end Go.Fn
/- Sheets of styles, plainly: they are checked, and what passes has all its wholes. -/
namespace Go.Fn
open Go Go.Lf
abbrev zS:Type:=Int×(Int×(Int×Unit))
abbrev p9:Type:=List UInt8×(List UInt8×(zS×Unit))
theorem at_len {α:Type} {l:List α} {i:Nat} {x:α} (h:l[i]? =some x):i<l.length:=(List.getElem?_eq_some_iff.1 h).1
theorem Hw (s:List UInt8):Ok (dX s) fun _=>True:=by
 unfold dX
 refine Ok.bind (Q:=fun b=>b=false→s.length≤12) ?_ fun b hb=>Ok.cond (fun _=>Ok.some trivial) fun h=>?_
 ·cases h1:decide (((s.length:Nat):Int)<1) with
  | true=>exact Ok.some (by simp)
  | false=>exact Ok.some fun h=>by have:=of_decide_eq_false h;omega
 have hl:=hb h
 refine Ok.bind (Q:=Nx (fun _=>True) fun _=>True) ?_ fun r _=>by cases r<;>exact Ok.some trivial
 refine Ok.kr s (by omega) (fun _=>True) (fun i x hx _=>?_) (fun _=>?_) trivial
 ·have hlt:=at_len hx
  refine Ok.yes (by omega) (Ok.bind (Q:=fun _=>True) (Ok.bind (Ok.bH hx) fun y _=>?_) fun b _=>Ok.cond (fun _=>Ok.inr trivial) fun _=>Ok.inl ⟨aN (by omega),trivial⟩)
  cases decide (((UInt8.toNat y:Nat):Int)<97) with
  | true=>exact Ok.some trivial
  | false=>exact Ok.bind (Ok.bH hx) fun _ _=>Ok.some trivial
 ·exact Ok.no (by omega) (Ok.inr trivial)
theorem EK (c:zS):Ok (dV c) fun _=>True:=by
 unfold dV
 repeat' first | exact Ok.some trivial | refine Ok.bind (Q:=fun _=>True) ?_ (fun _ _=>?_) | refine Ok.cond (fun _=>?_) (fun _=>?_)
theorem find_ok (l:List p9) (n:List UInt8) (hl:l.length<4000000000000000000):Ok (dw l n) fun r=>r.2=true→ ∃ i:Nat,i<l.length∧r.1=i:=by
 unfold dw
 refine Ok.bind (Q:=Nx (fun _=>True) fun r:Int×Bool=> ∃ i:Nat,i<l.length∧r.1=i) ?_ fun r hr=>?_
 ·refine Ok.kr l (by omega) (fun _=>True) (fun i x hx _=>?_) (fun _=>?_) trivial
  ·have hlt:=at_len hx
   exact Ok.yes (by omega) (Ok.bind (Ok.bH hx) fun y _=>Ok.ifs (fun _=>Ok.inr ⟨i,hlt,rfl⟩) fun _=>Ok.inl ⟨aN (by omega),trivial⟩)
  ·exact Ok.no (by omega) (Ok.inr trivial)
 ·cases r with
  | inl _=>exact Ok.some fun h=>by cases h
  | inr r=>exact Ok.some fun _=>hr
theorem then_ok (a b:zS):Ok (mV a b) fun _=>True:=by
 unfold mV
 repeat' first | exact Ok.some trivial | refine Ok.bind (Q:=fun _=>True) ?_ (fun _ _=>?_) | refine Ok.cond (fun _=>?_) (fun _=>?_)
theorem zU {self:List p9×Int→Option zS} {l:List p9} {i:Nat} {x:p9} {v:Int×Bool} (hx:l[i]? =some x) (hv:dw l x.2.1=some v) (hs:v.2=true→x.2.1≠[]→ ∃ c,self (l,v.1)=some c): ∃ c,fe self l (i:Int)=some c:=by
 suffices h:Ok (fe self l (i:Int)) fun _=>True by
  obtain ⟨c,hc,_⟩:=h
  exact ⟨c,hc⟩
 unfold fe
 refine Ok.bind (Q:=fun _=>True) ⟨_,rfl,trivial⟩ fun p _=>?_
 refine Ok.bind (Q:=fun _=>True) ?_ fun q _=>Ok.bind (Ok.bH hx) fun y _=>Ok.ends (then_ok _ _)
 refine Ok.bind (Ok.bH hx) fun y hy=>?_
 subst hy
 refine Ok.bind (Ok.of (Q:=(v= ·)) hv rfl) fun r hr=>?_
 subst hr
 refine Ok.bind (Q:=fun q=>q.1=true→v.2=true∧x.2.1≠[]) (Ok.cond (fun h=>Ok.bind (Ok.bH hx) fun y hy=>Ok.some fun h'=>⟨h,by subst hy;exact of_decide_eq_true h'⟩) fun _=>Ok.some fun h=>by cases h) fun q hq=>Ok.cond (fun h=>?_) fun _=>Ok.some trivial
 obtain ⟨c,hc⟩:=hs (hq h).1 (hq h).2
 exact Ok.bind (Ok.of (Q:=fun _=>True) hc trivial) fun _ _=>Ok.some trivial
theorem Jm {self self':List p9×Int→Option zS} (hs: ∀ z,Le (self z) (self' z)) (l:List p9) (i:Int):Le (fe self l i) (fe self' l i):=by
 unfold fe
 repeat' first | exact hs _ | refine Le.bind ?_ (fun _=>?_) | refine Le.cond ?_ ?_ | exact Le.refl
theorem AR: ∀ (n:Nat) z,Le (aX n z) (aX (n+1) z)
 | 0,_=>fun _ h=>by cases h
 | n+1,z=>Jm (AR n) _ _
theorem IY {l:List p9} {i:Int} {n:Nat} (h: ∃ c,aX n (l,i)=some c): ∃ c,fw l i=some c:=by
 obtain ⟨c,hc⟩:=h
 exact ⟨c,sup_le (g:=fun n=>aX n (l,i)) (fun n=>AR n _) n c hc⟩
theorem FO (l:List p9) (hl:l.length<4000000000000000000) (B:Int×(Int×Bool)→Option ((Int×(Int×Bool))⊕Bool)) (hB: ∀ z1,B z1=(bif (decide (z1.1<(8:Int))) then ((Go.Lf.idx l z1.2.1)).bind fun r2=>
   ((Go.Fn.dw l r2.2.1)).bind fun r3=>
   (((Go.Lf.idx l z1.2.1)).bind fun r4=>
    bif (!(decide ((r4.2.1:List (UInt8))=([]:List (UInt8))))) then some (!r3.2)
    else some true).bind fun r5=>
   bif r5 then some (.inr true)
   else some (.inl ((Go.IntKind.wrap .i64 (z1.1+(1:Int))),(r3.1,z1.2.2)))
   else some (.inr z1.2.2))): ∀ (m k i N:Nat),k+m=8→m<N→i<l.length→Ok (iter B N ((k:Int),((i:Int),false))) fun r=>r=true→ ∃ c,aX m (l,(i:Int))=some c
 | _,_,_,0,_,hN,_=>by omega
 | 0,k,i,N+1,hk,_,_=>by
  unfold iter
  rw [hB]
  refine Ok.bind (Q:=Nx (fun _=>False) (fun r=>r=false)) (Ok.no (by show ¬ ((k:Int)<8);omega) (Ok.inr rfl)) fun d hd=>?_
  cases d with
  | inl z=>exact hd.elim
  | inr r=>exact Ok.some fun h=>by rw [show r=false from hd] at h;cases h
 | m+1,k,i,N+1,hk,hN,hi=>by
  unfold iter
  have hx:l[i]? =some l[i]:=List.getElem?_eq_getElem hi
  generalize l[i]=x at hx
  obtain ⟨v,hv,hvp⟩:=find_ok l x.2.1 hl
  rw [hB]
  refine Ok.bind (Q:=Nx (fun z=> ∃ j:Nat,j<l.length∧z=(((k+1:Nat):Int),((j:Int),false))∧((∃ c,aX m (l,(j:Int))=some c)→ ∃ c,aX (m+1) (l,(i:Int))=some c)) (fun r=>r=true→ ∃ c,aX (m+1) (l,(i:Int))=some c)) ?_ fun d hd=>?_
  ·refine Ok.yes (by show (k:Int)<8;omega) (Ok.bind (Ok.bH hx) fun y hy=>?_)
   subst hy
   refine Ok.bind (Ok.of (Q:=(v= ·)) hv rfl) fun r hr=>?_
   subst hr
   refine Ok.bind (Q:=fun b=>(b=true→v.2=true→x.2.1=[])∧(b=false→v.2=true)) (Ok.bind (Ok.bH hx) fun y hy=>?_) fun b hb=>Ok.cond (fun h=>Ok.inr fun _=>zU hx hv fun h1 h2=>absurd (hb.1 h h1) h2) fun h=>?_
   ·subst hy
    cases h:decide (x.2.1=[]) with
    | true=>exact Ok.some ⟨fun _ _=>of_decide_eq_true h,fun h=>(by cases h)⟩
    | false=>
     refine Ok.some ?_
     cases v.2 with
     | true=>exact ⟨fun h=>(by cases h),fun _=>rfl⟩
     | false=>exact ⟨fun _ h=>(by cases h),fun h=>(by cases h)⟩
   ·obtain ⟨j,hj,hv1⟩:=hvp (hb.2 h)
    refine Ok.inl ⟨j,hj,?_,fun hc=>zU hx hv fun _ _=>by rw [hv1];exact hc⟩
    show (IntKind.wrap .i64 ((k:Int)+1),(v.1,false))=_
    rw [aN (by omega),hv1]
  ·cases d with
   | inl z=>
    obtain ⟨j,hj,rfl,hw⟩:=hd
    exact (FO l hl B hB m (k+1) j N (by omega) (by omega) hj).imp fun r hr h=>hw (hr h)
   | inr r=>exact Ok.some hd
theorem Sw (l:List p9) (hl:l.length<4000000000000000000) {i:Nat} (hi:i<l.length):Ok (mO l (i:Int)) fun r=>r=true→ ∃ c,fw l (i:Int)=some c:=by
 unfold mO
 refine Ok.ends ((FO l hl _ (fun _=>rfl) 8 0 i 4611686018427387904 rfl (by omega) hi).imp fun r hr h=>IY (hr h))
theorem EH (l:List p9):Ok (bE l) fun r=>r.2=0→l.length≤64∧ ∀ i:Nat,i<l.length→ ∃ c,fw l (i:Int)=some c:=by
 unfold bE
 refine Ok.ifs (fun _=>Ok.some fun h=>by cases h) fun hl=>?_
 refine Ok.bind (Q:=Nx (fun _=>True) fun r:Int×Int=>r.2≠0) ?_ fun r hr=>?_
 ·refine Ok.kr l (by omega) (fun _=>True) (fun i x hx _=>?_) (fun _=>?_) trivial
  ·have hlt:=at_len hx
   refine Ok.yes (by omega) (Ok.bind (Ok.bH hx) fun y _=>Ok.bind (Hw _) fun b _=>Ok.cond (fun _=>Ok.inr (show (60:Int)≠0 by decide)) fun _=>?_)
   refine Ok.bind (Ok.sub (Q:=fun t=>t.length≤l.length) (by omega) (by omega) (by omega) (by rw [List.length_take,List.length_drop];omega)) fun t ht=>Ok.bind (find_ok _ _ (by omega)) fun f _=>Ok.cond (fun _=>Ok.inr (show (61:Int)≠0 by decide)) fun _=>?_
   exact Ok.bind (EK _) fun e _=>Ok.ifs (fun h=>Ok.inr h) fun _=>Ok.inl ⟨aN (by omega),trivial⟩
  ·exact Ok.no (by omega) (Ok.inr trivial)
 cases r with
 | inr r=>exact Ok.some fun h=>absurd h hr
 | inl _=>
  refine Ok.bind (Q:=Nx (fun _=> ∀ i:Nat,i<l.length→ ∃ c,fw l (i:Int)=some c) fun r:Int×Int=>r.2≠0) ?_ fun r hr=>?_
  ·refine Ok.kr l (by omega) (fun i=> ∀ j:Nat,j<i→ ∃ c,fw l (j:Int)=some c) (fun i x hx hi=>?_) (fun hi=>?_) (fun j h=>by omega)
   ·have hlt:=at_len hx
    obtain ⟨v,hv,hvp⟩:=find_ok l x.2.1 (by omega)
    refine Ok.yes (by omega) (Ok.bind (Q:=Nx (fun _=> ∃ c,fw l (i:Int)=some c) fun r:Int×Int=>r.2≠0) (Ok.bind (Ok.bH hx) fun y hy=>?_) fun d hd=>?_)
    ·subst hy
     refine Ok.ifs (fun h=>Ok.inl (IY (n:=1) (zU hx hv fun _ h'=>absurd h h'))) fun h=>?_
     refine Ok.bind (Ok.of (Q:=(v= ·)) hv rfl) fun r hr=>?_
     subst hr
     refine Ok.cond (fun _=>Ok.inr (by simp)) fun _=>Ok.bind (Sw l (by omega) hlt) fun e he=>?_
     cases e with
     | false=>exact Ok.inr (by simp)
     | true=>exact Ok.inl (he rfl)
    ·cases d with
     | inr r=>exact Ok.inr hd
     | inl _=>
      refine Ok.inl ⟨aN (by omega),fun j hj=>?_⟩
      by_cases h:j=i
      ·rw [h];exact hd
      ·exact hi j (by omega)
   ·exact Ok.no (by omega) (Ok.inr hi)
  ·cases r with
   | inr r=>exact Ok.some fun h=>absurd h hr
   | inl _=>exact Ok.some fun _=>⟨by omega,hr⟩
theorem Fa (l:List p9) (hl:l.length≤64) (n:List UInt8):Ok (ig l n) fun _=>True:=by
 unfold ig
 refine Ok.bind (EH l) fun e he=>Ok.ifs (fun _=>Ok.some trivial) fun h0=>?_
 obtain ⟨_,hw⟩:=he (Decidable.not_not.1 h0)
 refine Ok.bind (find_ok l n (by omega)) fun r hr=>?_
 obtain ⟨v,b⟩:=r
 cases b with
 | false=>exact Ok.some trivial
 | true=>
  obtain ⟨i,hi,rfl⟩:=hr rfl
  obtain ⟨c,hc⟩:=hw i hi
  exact Ok.bind (Ok.of (Q:=fun _=>True) hc trivial) fun _ _=>Ok.some trivial
end Go.Fn
/- Sheets of styles: what the program's check lets pass, the document's lets pass, and their styles come to the same. -/
namespace Go.Fn
open Go Go.Lf
def ve:List p9→List UInt8→Option Nat
 | [],_=>none
 | s::r,n=>if s.1=n then some 0 else (ve r n).map (· +1)
theorem Ed: ∀ (l:List p9) (n:List UInt8) (i:Nat),ve l n=some i→i<l.length
 | [],n,i,h=>by cases h
 | s::r,n,i,h=>by
  unfold ve at h
  split at h
  ·injection h with h;subst h;simp
  ·cases hr:ve r n with
   | none=>rw [hr] at h;cases h
   | some j=>
    rw [hr] at h
    have:=Ed r n j hr
    have h:j+1=i:=by injection h
    simp only [List.length_cons];omega
theorem Kh: ∀ (l:List p9) (n:List UInt8) (i:Nat) (x:p9),l[i]? =some x→x.1=n→(∀ j y,j<i→l[j]? =some y→y.1≠n)→ve l n=some i
 | [],n,i,x,h,_,_=>by simp at h
 | s::r,n,0,x,h,hx,_=>by
  unfold ve
  have h:s=x:=by simpa using h
  rw [h,if_pos hx]
 | s::r,n,i+1,x,h,hx,hn=>by
  unfold ve
  rw [if_neg (hn 0 s (by omega) rfl),Kh r n i x (by simpa using h) hx fun j y hj hy=>hn (j+1) y (by omega) (by simpa using hy)]
  rfl
theorem Qq: ∀ (l:List p9) (n:List UInt8),(∀ (j:Nat) (y:p9),l[j]? =some y→y.1≠n)→ve l n=none
 | [],n,_=>rfl
 | s::r,n,h=>by
  unfold ve
  rw [if_neg (h 0 s rfl),Qq r n fun j y hy=>h (j+1) y (by simpa using hy)]
  rfl
theorem HY: ∀ (l:List p9) (n:List UInt8) (i:Nat),ve (l.take i) n=none→ ∀ j y,j<i→l[j]? =some y→y.1≠n
 | [],n,i,_,j,y,_,h=>by simp at h
 | s::r,n,0,_,j,y,hj,_=>by omega
 | s::r,n,i+1,h,j,y,hj,hy=>by
  rw [List.take_succ_cons] at h
  unfold ve at h
  split at h
  ·cases h
  rename_i hne
  cases hr:ve (r.take i) n with
  | some k=>rw [hr] at h;cases h
  | none=>
   cases j with
   | zero=>
    have hy:s=y:=by simpa using hy
    rw [← hy];exact hne
   | succ j=>exact HY r n i hr j y (by omega) (by simpa using hy)
def wz (l:List p9) (n:List UInt8):Int×Bool:=match ve l n with | some i=>((i:Int),true) | none=>(0,false)
theorem tT (l:List p9) (n:List UInt8) (hl:l.length<4000000000000000000):dw l n=some (wz l n):=by
 refine Ok.eq ?_
 unfold dw
 refine Ok.bind (Q:=fun d:Unit⊕(Int×Bool)=>match d with | .inl _=>ve l n=none | .inr r=>r=wz l n) ?_ fun r hr=>?_
 ·refine Ok.kr l (by omega) (fun i=> ∀ j y,j<i→l[j]? =some y→y.1≠n) (fun i x hx hI=>?_) (fun hI=>?_) (fun j y h=>by omega)
  ·have hlt:=at_len hx
   refine Ok.yes (by omega) (Ok.bind (Ok.bH hx) fun y hy=>?_)
   subst hy
   refine Ok.ifs (fun he=>Ok.inr ?_) fun hne=>Ok.inl ⟨aN (by omega),fun j y hj hy=>?_⟩
   ·show ((i:Int),true)=wz l n
    unfold wz
    rw [Kh l n i x hx he hI]
   ·by_cases h:j=i
    ·subst h
     rw [hx] at hy
     injection hy with hy
     rw [← hy];exact hne
    ·exact hI j y (by omega) hy
  ·exact Ok.no (by omega) (Ok.inr (Qq l n fun j y hy=>hI j y (at_len hy) hy))
 ·cases r with
  | inl _=>exact Ok.some (by unfold wz;rw [show ve l n=none from hr])
  | inr r=>exact Ok.some hr
theorem y9 (l:List p9) (n:List UInt8) (hl:l.length<4000000000000000000):dF l n=some (wz l n):=(show dF l n=dw l n from rfl).trans (tT l n hl)
def o8 (l:List p9):Nat→Nat→Bool
 | 0,_=>false
 | m+1,i=>match l[i]? with
  | none=>true
  | some s=>if s.2.1=[] then true else match ve l s.2.1 with
   | none=>true
   | some j=>o8 l m j
theorem yE (l:List p9) (m i:Nat):o8 l (m+1) i=match l[i]? with
  | none=>true
  | some s=>if s.2.1=[] then true else match ve l s.2.1 with
   | none=>true
   | some j=>o8 l m j:=rfl
theorem C7 (l:List p9) (hl:l.length<4000000000000000000) (B:Int×(Int×Bool)→Option ((Int×(Int×Bool))⊕Bool)) (hB: ∀ z1,B z1=(bif (decide (z1.1<(8:Int))) then ((Go.Lf.idx l z1.2.1)).bind fun r2=>
   ((Go.Fn.dw l r2.2.1)).bind fun r3=>
   (((Go.Lf.idx l z1.2.1)).bind fun r4=>
    bif (!(decide ((r4.2.1:List (UInt8))=([]:List (UInt8))))) then some (!r3.2)
    else some true).bind fun r5=>
   bif r5 then some (.inr true)
   else some (.inl ((Go.IntKind.wrap .i64 (z1.1+(1:Int))),(r3.1,z1.2.2)))
   else some (.inr z1.2.2))): ∀ (m k i N:Nat),k+m=8→m<N→i<l.length→Ok (iter B N ((k:Int),((i:Int),false))) (· =o8 l m i)
 | _,_,_,0,_,hN,_=>by omega
 | 0,k,i,N+1,hk,_,_=>by
  unfold iter
  rw [hB]
  refine Ok.bind (Q:=Nx (fun _=>False) (fun r=>r=false)) (Ok.no (by show ¬ ((k:Int)<8);omega) (Ok.inr rfl)) fun d hd=>?_
  cases d with
  | inl z=>exact hd.elim
  | inr r=>exact Ok.some hd
 | m+1,k,i,N+1,hk,hN,hi=>by
  unfold iter
  have hx:l[i]? =some l[i]:=List.getElem?_eq_getElem hi
  have hes:=yE l m i
  rw [hx] at hes
  generalize l[i]=x at hx hes
  rw [hB]
  refine Ok.bind (Q:=Nx (fun z=> ∃ j:Nat,j<l.length∧z=(((k+1:Nat):Int),((j:Int),false))∧o8 l (m+1) i=o8 l m j) (fun r=>r=o8 l (m+1) i)) ?_ fun d hd=>?_
  ·refine Ok.yes (by show (k:Int)<8;omega) (Ok.bind (Ok.bH hx) fun y hy=>?_)
   subst hy
   rw [tT l _ hl,Option.bind_some]
   refine Ok.bind (Q:=fun b=>(b=true→o8 l (m+1) i=true)∧(b=false→ ∃ j:Nat,ve l x.2.1=some j∧x.2.1≠[])) (Ok.bind (Ok.bH hx) fun y hy=>?_) fun b hb=>Ok.cond (fun h=>Ok.inr (hb.1 h).symm) fun h=>?_
   ·subst hy
    cases h:decide (x.2.1=[]) with
    | true=>exact Ok.some ⟨fun _=>by rw [hes];dsimp only;rw [if_pos (of_decide_eq_true h)],fun h=>(by cases h)⟩
    | false=>
     have hne:=of_decide_eq_false h
     refine Ok.some ?_
     unfold wz
     cases hf:ve l x.2.1 with
     | some j=>exact ⟨fun h=>(by cases h),fun _=>⟨j,rfl,hne⟩⟩
     | none=>exact ⟨fun _=>by rw [hes];dsimp only;rw [if_neg hne,hf],fun h=>(by cases h)⟩
   ·obtain ⟨j,hj,hne⟩:=hb.2 h
    refine Ok.inl ⟨j,Ed _ _ _ hj,?_,by rw [hes];dsimp only;rw [if_neg hne,hj]⟩
    show (IntKind.wrap .i64 ((k:Int)+1),((wz l x.2.1).1,false))=_
    rw [aN (by omega)]
    unfold wz
    rw [hj]
  ·cases d with
   | inl z=>
    obtain ⟨j,hj,rfl,hw⟩:=hd
    rw [hw]
    exact C7 l hl B hB m (k+1) j N (by omega) (by omega) hj
   | inr r=>exact Ok.some hd
theorem Rv (l:List p9) (hl:l.length<4000000000000000000) {i:Nat} (hi:i<l.length):Ok (mO l (i:Int)) (· =o8 l 8 i):=by
 unfold mO
 exact Ok.ends (C7 l hl _ (fun _=>rfl) 8 0 i 4611686018427387904 rfl (by omega) hi)
structure Az (l:List p9):Prop where
 len:l.length≤64
 nm: ∀ (i:Nat) x,l[i]? =some x→dX x.1=some true∧ve (l.take i) x.1=none∧dV x.2.2.1=some 0
 pr: ∀ (i:Nat) x,l[i]? =some x→x.2.1=[]∨((∃ j,ve l x.2.1=some j)∧o8 l 8 i=true)
theorem MW (l:List p9):Ok (bE l) fun r=>r.2=0→Az l:=by
 unfold bE
 refine Ok.ifs (fun _=>Ok.some fun h=>by cases h) fun hl=>?_
 refine Ok.bind (Q:=Nx (fun _=> ∀ (i:Nat) x,l[i]? =some x→dX x.1=some true∧ve (l.take i) x.1=none∧dV x.2.2.1=some 0) fun r:Int×Int=>r.2≠0) ?_ fun r hr=>?_
 ·refine Ok.kr l (by omega) (fun n=> ∀ (i:Nat) x,i<n→l[i]? =some x→dX x.1=some true∧ve (l.take i) x.1=none∧dV x.2.2.1=some 0) (fun i x hx hI=>?_) (fun hI=>?_) (fun i x h=>by omega)
  ·have hlt:=at_len hx
   refine Ok.yes (by omega) (Ok.bind (Ok.bH hx) fun y hy=>?_)
   subst hy
   obtain ⟨b,hb,_⟩:=Hw x.1
   rw [hb,Option.bind_some]
   refine Ok.cond (fun _=>Ok.inr (show (60:Int)≠0 by decide)) fun hbt=>?_
   have hbt:b=true:=by cases b<;>simp_all
   subst hbt
   refine Ok.bind (Ok.sub (Q:=(· =l.take i)) (by omega) (by omega) (by omega) (by simp)) fun t ht=>?_
   subst ht
   rw [tT _ _ (by rw [List.length_take];omega),Option.bind_some]
   refine Ok.cond (fun _=>Ok.inr (show (61:Int)≠0 by decide)) fun hf=>?_
   have hf:ve (l.take i) x.1=none:=by
    unfold wz at hf
    cases h:ve (l.take i) x.1 with
    | none=>rfl
    | some j=>rw [h] at hf;cases hf
   obtain ⟨e,he,_⟩:=EK x.2.2.1
   rw [he,Option.bind_some]
   refine Ok.ifs (fun h=>Ok.inr h) fun h=>Ok.inl ⟨aN (by omega),fun j y hj hy=>?_⟩
   by_cases hji:j=i
   ·subst hji
    rw [hx] at hy
    injection hy with hy
    subst hy
    refine ⟨hb,hf,?_⟩
    rw [he,Classical.byContradiction h]
   ·exact hI j y (by omega) hy
  ·exact Ok.no (by omega) (Ok.inr fun i x hx=>hI i x (at_len hx) hx)
 cases r with
 | inr r=>exact Ok.some fun h=>absurd h hr
 | inl _=>
  have hr1: ∀ (i:Nat) x,l[i]? =some x→dX x.1=some true∧ve (l.take i) x.1=none∧dV x.2.2.1=some 0:=hr
  refine Ok.bind (Q:=Nx (fun _=> ∀ (i:Nat) x,l[i]? =some x→x.2.1=[]∨((∃ j,ve l x.2.1=some j)∧o8 l 8 i=true)) fun r:Int×Int=>r.2≠0) ?_ fun r hr=>?_
  ·refine Ok.kr l (by omega) (fun n=> ∀ (i:Nat) x,i<n→l[i]? =some x→x.2.1=[]∨((∃ j,ve l x.2.1=some j)∧o8 l 8 i=true)) (fun i x hx hI=>?_) (fun hI=>?_) (fun j x h=>by omega)
   ·have hlt:=at_len hx
    refine Ok.yes (by omega) (Ok.bind (Q:=Nx (fun _=>x.2.1=[]∨((∃ j,ve l x.2.1=some j)∧o8 l 8 i=true)) fun r:Int×Int=>r.2≠0) (Ok.bind (Ok.bH hx) fun y hy=>?_) fun d hd=>?_)
    ·subst hy
     refine Ok.ifs (fun h=>Ok.inl (.inl h)) fun h=>?_
     rw [tT _ _ (by omega),Option.bind_some]
     refine Ok.cond (fun _=>Ok.inr (by simp)) fun hf=>Ok.bind (Rv l (by omega) hlt) fun e he=>?_
     have hf: ∃ j,ve l x.2.1=some j:=by
      unfold wz at hf
      cases h:ve l x.2.1 with
      | none=>rw [h] at hf;cases hf
      | some j=>exact ⟨j,rfl⟩
     cases e with
     | false=>exact Ok.inr (by simp)
     | true=>exact Ok.inl (.inr ⟨hf,he.symm⟩)
    ·cases d with
     | inr r=>exact Ok.inr hd
     | inl _=>
      refine Ok.inl ⟨aN (by omega),fun j y hj hy=>?_⟩
      by_cases h:j=i
      ·subst h
       rw [hx] at hy
       injection hy with hy
       subst hy
       exact hd
      ·exact hI j y (by omega) hy
   ·exact Ok.no (by omega) (Ok.inr fun i x hx=>hI i x (at_len hx) hx)
  ·cases r with
   | inr r=>exact Ok.some fun h=>absurd h hr
   | inl _=>exact Ok.some fun _=>⟨by omega,hr1,hr⟩
theorem NH (x:BitVec 64):IntKind.i64.wrap (x.toNat:Int)=0→x=0#64:=by
 intro h
 have hx:=x.isLt
 apply BitVec.eq_of_toNat_eq
 show x.toNat=0
 have:IntKind.i64.wrap (x.toNat:Int)=if x.toNat<9223372036854775808 then (x.toNat:Int) else (x.toNat:Int) - 18446744073709551616:=by
  simp only [IntKind.wrap]
  simp [IntKind.bits,IntKind.signed]
  split<;>split<;>omega
 rw [this] at h
 split at h<;>omega
theorem Bn {n:Int} (h0:0≤n) (h1:n≤9223372036854775807) (h:Go.Lf.bits .andNot .i64 n 127=0):n≤127:=by
 have h:=NH (BitVec.ofInt 64 n &&& ~~~ BitVec.ofInt 64 127) h
 rw [show BitVec.ofInt 64 127=127#64 by decide] at h
 have hx:((BitVec.ofInt 64 n).toNat:Int)=n:=by simp [BitVec.toNat_ofInt];omega
 have hb: ∀ i,(127#64).getLsbD i=decide (i<7):=fun i=>by
  rw [← BitVec.testBit_toNat,show (127#64).toNat=2^7 - 1 by decide,Nat.testBit_two_pow_sub_one]
 revert hx h
 generalize BitVec.ofInt 64 n=X
 intro h hx
 have:X.toNat<2^7:=Nat.lt_pow_two_of_testBit _ fun i hi=>by
  rw [BitVec.testBit_toNat]
  by_cases h64:i<64
  ·have h2:=congrArg (fun x:BitVec 64=>x.getLsbD i) h
   have h3: ¬ i<7:=by omega
   simp only [BitVec.getLsbD_and,BitVec.getLsbD_not,hb,h3,h64,decide_true,decide_false,Bool.not_false,Bool.and_true,BitVec.getLsbD_zero,Bool.true_and] at h2
   exact h2
  ·exact BitVec.getLsbD_of_ge _ _ (by omega)
 omega
theorem Uc (c:zS) (h:dV c=some 0) (f1:c.1≤9223372036854775807) (f2:c.2.1≤9223372036854775807):l6 c=some 0:=by
 obtain ⟨on,off,col,⟨⟩⟩:=c
 dsimp only at f1 f2
 unfold dV at h
 dsimp only at h
 have a1:Go.Lf.bits .andNot .i64 on 127=0:=Classical.byContradiction fun a1=>by simp [a1] at h
 have a2:Go.Lf.bits .andNot .i64 off 127=0:=Classical.byContradiction fun a2=>by simp [a1,a2] at h
 have a3: ¬ on<0:=fun a3=>by simp [a1,a2,a3] at h
 have a4: ¬ off<0:=fun a4=>by simp [a1,a2,a3,a4] at h
 have a5:Go.Lf.bits .and .i64 on off=0:=Classical.byContradiction fun a5=>by simp [a1,a2,a3,a4,a5] at h
 have a6: ¬ col< -1:=fun a6=>by simp [a1,a2,a3,a4,a5,a6] at h
 have a7: ¬ 15<col:=fun a7=>by simp [a1,a2,a3,a4,a5,a6,a7] at h
 have b1:=Bn (by omega) f1 a1
 have b2:=Bn (by omega) f2 a2
 unfold l6
 have c1: ¬ 127<on:=by omega
 have c2: ¬ 127<off:=by omega
 simp [a3,a4,a5,a6,a7,c1,c2]
theorem RZ (s:List UInt8) (h:dX s=some true):kI s=some true:=by
 have hq:Ok (dX s) fun b=>b=true→1≤s.length∧s.length≤12∧ ∀ x∈s,97≤x.toNat∧x.toNat≤122:=by
  unfold dX
  refine Ok.bind (Q:=fun b=>b=false→1≤s.length∧s.length≤12) ?_ fun b hb=>Ok.cond (fun _=>Ok.some fun h=>by cases h) fun h=>?_
  ·cases h1:decide (((s.length:Nat):Int)<1) with
   | true=>exact Ok.some (by simp)
   | false=>exact Ok.some fun h=>by have:=of_decide_eq_false h;have:=of_decide_eq_false h1;omega
  obtain ⟨hl1,hl⟩:=hb h
  refine Ok.bind (Q:=Nx (fun _=> ∀ x∈s,97≤x.toNat∧x.toNat≤122) fun r:Bool=>r=false) ?_ fun r hr=>?_
  ·refine Ok.kr s (by omega) (fun n=> ∀ (i:Nat) x,i<n→s[i]? =some x→97≤x.toNat∧x.toNat≤122) (fun i x hx hI=>?_) (fun hI=>?_) (fun i x h=>by omega)
   ·have hlt:=at_len hx
    refine Ok.yes (by omega) (Ok.bind (Q:=fun b=>b=false→97≤x.toNat∧x.toNat≤122) (Ok.bind (Ok.bH hx) fun y hy=>?_) fun b hb=>Ok.cond (fun _=>Ok.inr rfl) fun hb'=>Ok.inl ⟨aN (by omega),fun j y hj hy=>?_⟩)
    ·subst hy
     cases h1:decide (((UInt8.toNat x:Nat):Int)<97) with
     | true=>exact Ok.some fun h=>(by cases h)
     | false=>
      refine Ok.bind (Ok.bH hx) fun y hy=>?_
      subst hy
      exact Ok.some fun h=>by have:=of_decide_eq_false h;have:=of_decide_eq_false h1;omega
    ·by_cases hji:j=i
     ·subst hji
      rw [hx] at hy
      injection hy with hy
      rw [← hy];exact hb hb'
     ·exact hI j y (by omega) hy
   ·refine Ok.no (by omega) (Ok.inr fun x hx=>?_)
    obtain ⟨i,hi,hie⟩:=List.getElem_of_mem hx
    exact hI i x hi (by rw [List.getElem?_eq_getElem hi,hie])
  ·cases r with
   | inr r=>exact Ok.some fun h=>by rw [show r=false from hr] at h;cases h
   | inl _=>exact Ok.some fun _=>⟨hl1,hl,hr⟩
 obtain ⟨b,hb,hq⟩:=hq
 rw [h] at hb
 injection hb with hb
 obtain ⟨h1,h2,h3⟩:=hq hb.symm
 refine Ok.eq ?_
 unfold kI
 refine Ok.bind (Q:=fun d:Unit⊕Bool=>d= .inl ()) ?_ fun d hd=>?_
 ·refine Ok.kr s (by omega) (fun _=>True) (fun i x hx _=>?_) (fun _=>Ok.no (by omega) (Ok.inr rfl)) trivial
  have hlt:=at_len hx
  obtain ⟨g1,g2⟩:=h3 x (List.mem_of_getElem? hx)
  refine Ok.yes (by omega) (Ok.bind (Q:=(· =false)) (Ok.bind (Ok.bH hx) fun y hy=>?_) fun b hb=>?_)
  ·subst hy
   rw [decide_eq_false (show ¬ ((UInt8.toNat x:Nat):Int)<97 by omega)]
   refine Ok.cond (fun _=>Ok.bind (Ok.bH hx) fun y hy=>?_) fun h=>(by cases h)
   subst hy
   exact Ok.some (decide_eq_false (by omega))
  ·subst hb
   exact Ok.inl ⟨aN (by omega),trivial⟩
 ·subst hd
  refine Ok.UE (Ok.ends (Ok.yes (by omega) (Ok.some (decide_eq_true (by omega)))))
theorem CF (l:List p9) (hl:l.length<4000000000000000000) (B:Int×Int→Option ((Int×Int)⊕(Unit⊕Int))) (hB: ∀ z1,B z1=(((Go.Lf.idx l z1.2)).bind fun r2=>
   bif (decide ((r2.2.1:List (UInt8))≠([]:List (UInt8)))) then ((Go.Lf.idx l z1.2)).bind fun r3=>
   ((Go.Fn.dF l r3.2.1)).bind fun r4=>
   bif (!r4.2) then bif (decide ((z1.1:Int)=(1:Int))) then some (.inr (.inr (64:Int)))
   else some (.inr (.inr (0:Int)))
   else bif (decide ((8:Int)<(Go.IntKind.wrap .i64 (z1.1+(1:Int))))) then some (.inr (.inr (65:Int)))
   else some (.inl ((Go.IntKind.wrap .i64 (z1.1+(1:Int))),r4.1))
   else some (.inr (.inl ())))): ∀ (m k i N:Nat),k+m=9→m<N→1≤k→i<l.length→o8 l m i=true→(k=1→ ∀ x,l[i]? =some x→x.2.1=[]∨ ∃ j,ve l x.2.1=some j)→Ok (iter B N ((k:Int),(i:Int))) fun r=>r= .inl ()∨r= .inr 0
 | _,_,_,0,_,hN,_,_,_,_=>by omega
 | 0,k,i,N+1,_,_,_,_,he,_=>by cases he
 | m+1,k,i,N+1,hk,hN,h1,hi,he,hp=>by
  unfold iter
  have hx:l[i]? =some l[i]:=List.getElem?_eq_getElem hi
  have hes:=yE l m i
  rw [hx,he] at hes
  generalize l[i]=x at hx hes
  rw [hB]
  refine Ok.bind (Q:=Nx (fun z=> ∃ j:Nat,j<l.length∧z=(((k+1:Nat):Int),(j:Int))∧o8 l m j=true) (fun r=>r= .inl ()∨r= .inr 0)) ?_ fun d hd=>?_
  ·refine Ok.bind (Ok.bH hx) fun y hy=>?_
   subst hy
   refine Ok.ifs (fun hne=>?_) fun _=>Ok.inr (.inl rfl)
   have hne:x.2.1≠[]:=hne
   dsimp only at hes
   rw [if_neg hne] at hes
   refine Ok.bind (Ok.bH hx) fun y hy=>?_
   subst hy
   rw [y9 l _ hl,Option.bind_some]
   cases hf:ve l x.2.1 with
   | none=>
    unfold wz
    rw [hf]
    refine Ok.ifs (fun hk1=>?_) fun _=>Ok.inr (.inr rfl)
    have hk1:(k:Int)=1:=hk1
    rcases hp (by omega) x hx with h | ⟨j,h⟩
    ·exact absurd h hne
    ·rw [hf] at h;cases h
   | some j=>
    rw [hf] at hes
    have e:wz l x.2.1=((j:Int),true):=by unfold wz;rw [hf]
    rw [e]
    have ew:IntKind.wrap .i64 ((k:Int)+1)=((k+1:Nat):Int):=aN (by omega)
    refine Ok.ifs (fun h8=>?_) fun _=>Ok.inl ⟨j,Ed _ _ _ hf,by show (IntKind.wrap .i64 ((k:Int)+1),_)=_;rw [ew],hes.symm⟩
    exfalso
    have h8:(8:Int)<IntKind.wrap .i64 ((k:Int)+1):=h8
    rw [ew] at h8
    have:m=0:=by omega
    subst this
    cases hes
  ·cases d with
   | inl z=>
    obtain ⟨j,hj,rfl,hw⟩:=hd
    exact CF l hl B hB m (k+1) j N (by omega) (by omega) (by omega) hj hw fun h=>by omega
   | inr r=>exact Ok.some hd
theorem OX {l:List p9} (h:Az l) {i:Nat} (hi:i<l.length):jM l (i:Int)=some 0:=by
 refine Ok.eq ?_
 have hlen:=h.len
 have hp:=h.pr i l[i] (List.getElem?_eq_getElem hi)
 unfold jM
 have he:o8 l 8 i=true:=by
  rcases hp with hp | ⟨_,hp⟩
  ·rw [yE,List.getElem?_eq_getElem hi]
   dsimp only
   rw [if_pos hp]
  ·exact hp
 refine Ok.bind (CF l (by omega) _ (fun _=>rfl) 8 1 i 4611686018427387904 rfl (by omega) (Nat.le_refl _) hi he fun _ x hx=>?_) fun d hd=>?_
 ·rw [List.getElem?_eq_getElem hi] at hx
  injection hx with hx
  subst hx
  exact hp.imp id fun h=>h.1
 ·rcases hd with rfl | rfl
  ·exact Ok.some rfl
  ·exact Ok.some rfl
def FR (l:List p9):Prop:= ∀ s∈l,s.2.2.1.1≤9223372036854775807∧s.2.2.1.2.1≤9223372036854775807
theorem Ue {l:List p9} (h:Az l) {i:Nat} {x:p9} (hx:l[i]? =some x):ve l x.1=some i:=Kh l x.1 i x hx rfl (HY l x.1 i (h.nm i x hx).2.1)
theorem Fy {l:List p9} (h:Az l) (hf:FR l):gU l=some (0,0):=by
 refine Ok.eq ?_
 have hlen:=h.len
 unfold gU
 refine Ok.no (by omega) (Ok.bind (Q:=fun d:Unit⊕(Int×Int)=>d= .inl ()) ?_ fun d hd=>?_)
 ·refine Ok.kr l (by omega) (fun _=>True) (fun i x hx _=>?_) (fun _=>Ok.no (by omega) (Ok.inr rfl)) trivial
  have hlt:=at_len hx
  obtain ⟨n1,n2,n3⟩:=h.nm i x hx
  obtain ⟨f1,f2⟩:=hf x (List.mem_of_getElem? hx)
  refine Ok.yes (by omega) (Ok.bind (Ok.bH hx) fun y hy=>?_)
  subst hy
  rw [RZ _ n1,Option.bind_some]
  refine Ok.cond (fun h=>by cases h) fun _=>Ok.bind (Ok.bH hx) fun y hy=>?_
  subst hy
  rw [y9 l _ (by omega),Option.bind_some]
  unfold wz
  rw [Ue h hx]
  refine Ok.no (by show ¬ (i:Int)<(i:Int);omega) (Ok.bind (Ok.bH hx) fun y hy=>?_)
  subst hy
  rw [Uc _ n3 f1 f2,Option.bind_some]
  exact Ok.no (fun h=>h rfl) (Ok.inl ⟨aN (by omega),trivial⟩)
 ·subst hd
  refine Ok.UE (Ok.bind (Q:=fun d:Unit⊕(Int×Int)=>d= .inl ()) ?_ fun d hd=>by subst hd;exact Ok.some rfl)
  refine Ok.kr l (by omega) (fun _=>True) (fun i x hx _=>?_) (fun _=>Ok.no (by omega) (Ok.inr rfl)) trivial
  have hlt:=at_len hx
  refine Ok.yes (by omega) ?_
  rw [OX h hlt,Option.bind_some]
  exact Ok.no (fun h=>h rfl) (Ok.inl ⟨aN (by omega),trivial⟩)
theorem JL (a b:zS):kR a b=mV a b:=by
 obtain ⟨a1,a2,a3,⟨⟩⟩:=a
 obtain ⟨b1,b2,b3,⟨⟩⟩:=b
 unfold kR mV
 by_cases h:b3= -1
 ·subst h;rfl
 ·simp [h]
theorem Jg (a:Int×(Int×Unit)) (b:zS):gK a b=lu a b:=rfl
theorem Bl {l:List p9} (h:Az l): ∀ (n i:Nat),i<l.length→c_ n (l,(i:Int))=aX n (l,(i:Int))
 | 0,i,hi=>rfl
 | n+1,i,hi=>by
  have hlen:=h.len
  have hg:idx l (i:Int)=some l[i]:=by rw [zJ,List.getElem?_eq_getElem hi]
  have hp:=h.pr i l[i] (List.getElem?_eq_getElem hi)
  unfold c_ aX lN fe
  rw [show oo=some (0,0, -1,()) from rfl,show wH=some (0,0, -1,()) from rfl]
  simp only [Option.bind_some,hg,tT l _ (show l.length<4000000000000000000 by omega),y9 l _ (show l.length<4000000000000000000 by omega),JL,wz]
  by_cases hb:l[i].2.1=[]
  ·simp only [hb,ne_eq,not_true_eq_false,decide_false,cond_false,Option.bind_some]
   cases ve l []<;>rfl
  ·obtain ⟨⟨j,hj⟩,_⟩:=hp.resolve_left hb
   simp only [hj,hb,ne_eq,not_false_eq_true,decide_true,cond_true,Option.bind_some,Bl h n j (Ed l _ j hj)]
theorem Ko {l:List p9} (h:Az l) {i:Nat} (hi:i<l.length):jO l (i:Int)=fw l (i:Int):=by
 unfold jO fw
 congr 1
 funext n
 exact Bl h n i hi
theorem Br {l:List p9} (h:Az l) (hf:FR l) {p:Int} (hc:bE l=some (p,0)) (n:List UInt8):gJ l n=ig l n:=by
 have hlen:=h.len
 unfold gJ ig
 rw [Fy h hf,hc]
 simp only [Option.bind_some,ne_eq,not_true_eq_false,decide_false,cond_false,tT l _ (show l.length<4000000000000000000 by omega),y9 l _ (show l.length<4000000000000000000 by omega),wz]
 cases hn:ve l n with
 | none=>rfl
 | some j=>simp only [Bool.not_true,cond_false,Ko h (Ed l _ j hn)]
end Go.Fn
/- Chapter 13's first examples, reckoned by the kernel. -/
namespace Go.Fn
open Go Go.Lf
theorem J7:m_=some true:=by kernel_rfl
theorem Sm:bE []=some (0,0):=by kernel_rfl
end Go.Fn
/- text.Width, plainly. -/
namespace Go.Fn
open Go Go.Lf
def vJ:List (Int×(Int×Unit)):=[(4352,(4447,())),(11904,(12350,())),(12353,(13311,())),(13312,(19903,())),(19968,(42191,())),(44032,(55203,())),(63744,(64255,())),(65072,(65135,())),(65280,(65376,())),(65504,(65510,())),(127744,(128591,())),(129280,(129535,())),(131072,(262141,()))]
noncomputable def PV (a0:Int):Option Int:=
 ((((bif (decide ((0:Int)≤a0)) then some (decide (a0<(32:Int)))
  else some false).bind fun r1=>
 bif r1 then some (.inl ())
 else (bif (decide ((127:Int)≤a0)) then some (decide (a0≤(159:Int)))
  else some false).bind fun r2=>
 bif r2 then some (.inl ())
 else (bif (decide ((768:Int)≤a0)) then some (decide (a0≤(879:Int)))
  else some false).bind fun r3=>
 bif r3 then some (.inl ())
 else (bif (decide ((8203:Int)≤a0)) then some (decide (a0≤(8205:Int)))
  else some false).bind fun r4=>
 bif r4 then some (.inl ())
 else (bif (decide ((65024:Int)≤a0)) then some (decide (a0≤(65039:Int)))
  else some false).bind fun r5=>
 bif r5 then some (.inl ())
 else some (.inr ()):Option (Unit⊕Unit)).bind fun r=>
 bC r (fun _=>some (.inl (0:Int))) (fun _=>some (.inr ())):Option (Int⊕Unit))).bind fun r=>
 bC r (fun a=>some a) fun _=>
 (iter (σ:=Int) (κ:=Int⊕Unit) (fun z=>
   bif (decide (z<(13:Int))) then ((Go.Lf.idx vJ z)).bind fun r=>
   (bif (decide (r.1≤a0)) then some (decide (a0≤r.2.1))
    else some false).bind fun b=>
   bif b then some (.inr (.inl (2:Int)))
   else some (.inl (Go.IntKind.wrap .i64 (z+(1:Int))))
   else some (.inr (.inr ()))) 4000 (0:Int)).bind fun r=>
 bC r (fun a=>some a) (fun _=>some (1:Int))
theorem P6 (a0:Int):uC a0=PV a0:=by kernel_rfl
end Go.Fn
/- Characters of a text, and which of them a plain text may have: no program in sight. -/
namespace Go.Fn
open Go Go.Lf
def lX (r a b:Int):Bool:=decide (a≤r) && decide (r≤b)
theorem tu (p q:Bool):(bif p then some q else some false)=some (p && q):=by cases p<;>rfl
abbrev Eg:Type:=Int×(Int×(Int×(Bool×Unit)))
def iF (l:List UInt8) (p:Nat):Eg:=(((Lib.decodeL (l.drop p)).1:Int),(p:Int),((Lib.decodeL (l.drop p)).2:Int),decide ((Lib.decodeL (l.drop p)).1=65533) && decide ((Lib.decodeL (l.drop p)).2=1),())
def sK (l:List UInt8):Nat→Nat→List Eg
 | 0,_=>[]
 | f+1,p=>if p<l.length then iF l p::sK l f (p+(Lib.decodeL (l.drop p)).2) else []
def EC (c:Eg):Eg:=(c.1,c.2.1,0,false,())
theorem uq (l:List UInt8) (p:Nat) (h:p<l.length):p+(Lib.decodeL (l.drop p)).2≤l.length:=by
 have:=Lib.decodeL_le (l.drop p) (by intro e;have:=congrArg List.length e;simp at this;omega)
 rw [List.length_drop] at this
 omega
theorem y_ {l:List UInt8} {f p:Nat} (h:p<l.length):sK l (f+1) p=iF l p::sK l f (p+(Lib.decodeL (l.drop p)).2):=by rw [sK,if_pos h]
theorem uG {l:List UInt8} {f p:Nat} (h: ¬ p<l.length):sK l f p=[]:=by
 cases f with
 | zero=>rfl
 | succ f=>rw [sK,if_neg h]
theorem KZ (l:List UInt8): ∀ (f g p:Nat),l.length≤p+f→l.length≤p+g→sK l f p=sK l g p
 | 0,g,p,h1,_=>by rw [uG (by omega),uG (by omega)]
 | f+1,g,p,h1,h2=>by
  by_cases hq:p<l.length
  ·have hw:=Lib.decodeL_width (l.drop p)
   cases g with
   | zero=>omega
   | succ g=>rw [y_ hq,y_ hq,KZ l f g _ (by omega) (by omega)]
  ·rw [uG hq,uG hq]
theorem De (l:List UInt8): ∀ (f p:Nat),(sK l f p).length≤f
 | 0,_=>Nat.le_refl _
 | f+1,p=>by
  unfold sK
  split
  ·have:=De l f (p+(Lib.decodeL (l.drop p)).2)
   simp;omega
  ·simp
theorem Cs {l:List UInt8} {p:Nat} (h:p<l.length):sK l l.length p=iF l p::sK l l.length (p+(Lib.decodeL (l.drop p)).2):=by
 have hw:=Lib.decodeL_width (l.drop p)
 have h0:sK l l.length p=sK l (l.length+1) p:=KZ l _ _ p (by omega) (by omega)
 rw [h0,y_ h]
theorem G9 (l:List UInt8) (p:Nat):Ab l (p:Int)=((Lib.decodeL (l.drop p)).1:Int)∧Bb l (p:Int)=((Lib.decodeL (l.drop p)).2:Int):=by
 unfold Ab Bb
 rw [Int.toNat_natCast, ← Lib.decodeL_drop]
 exact ⟨rfl,rfl⟩
def ctl (r:Int):Bool:=decide (r<32) || lX r 127 159
def EB (c:Eg):Bool:= !c.2.2.2.1 && !ctl c.1
end Go.Fn
/- Characters and their widths, plainly: the program's and the document's are alike. -/
namespace Go.Fn
open Go Go.Lf
def w0 (r:Int):Bool:=(decide (0≤r) && decide (r<32)) || (lX r 127 159 || (lX r 768 879 || (lX r 8203 8205 || lX r 65024 65039)))
def w2 (r:Int):Bool:=vJ.any fun p=>lX r p.1 p.2.1
def wd (r:Int):Int:=if w0 r then 0 else if w2 r then 2 else 1
theorem QN (r:Int):uC r=some (wd r):=by
 rw [P6]
 have hloop: ∀ {f:Int→Option (Int⊕(Int⊕Unit))},(∀ z,f z=bif (decide (z<(13:Int))) then ((Go.Lf.idx vJ z)).bind fun p=>
   (bif (decide (p.1≤r)) then some (decide (r≤p.2.1))
    else some false).bind fun b=>
   bif b then some (.inr (.inl (2:Int)))
   else some (.inl (Go.IntKind.wrap .i64 (z+(1:Int))))
   else some (.inr (.inr ())))→iter f 4000 (0:Int)=some (if w2 r then .inl 2 else .inr ()):=by
  intro f hf
  have h:=G5 (B:=f) (Q:=fun d=>d=if w2 r then .inl 2 else .inr ()) (fun k z=> ∃ i:Nat,z=(i:Int)∧i+k=13∧w2 r=(vJ.drop i).any fun p=>lX r p.1 p.2.1) (fun k z hz=>?_) 4000 13 0 (by omega) ⟨0,rfl,rfl,rfl⟩
  ·obtain ⟨d,h1,h2⟩:=h
   rw [h1,h2]
  ·obtain ⟨i,rfl,hi,hw⟩:=hz
   rw [hf]
   have hl:vJ.length=13:=rfl
   refine Ok.ifs (fun hlt=>?_) fun hge=>Ok.inr ?_
   ·have hlt:(i:Int)<13:=hlt
    have hi':i<vJ.length:=by omega
    refine Ok.bind (Ok.bH (List.getElem?_eq_getElem hi')) fun p hp=>?_
    subst hp
    rw [tu]
    rw [List.drop_eq_getElem_cons hi',List.any_cons] at hw
    refine Ok.sb (Ok.cond (fun hb=>Ok.inr ?_) fun hb=>Ok.inl ⟨k - 1,by omega,i+1,aN (by omega),by omega,?_⟩)
    ·have hb:lX r vJ[i].1 vJ[i].2.1=true:=hb
     rw [hb,Bool.true_or] at hw
     rw [hw];rfl
    ·have hb:lX r vJ[i].1 vJ[i].2.1=false:=hb
     rw [hb,Bool.false_or] at hw
     exact hw
   ·have hge: ¬ (i:Int)<13:=hge
    have h0:vJ.drop i=[]:=List.drop_eq_nil_of_le (by omega)
    rw [h0] at hw
    rw [hw];rfl
 unfold PV
 rw [hloop fun _=>rfl]
 simp only [tu,Option.bind_some]
 unfold wd w0 lX
 cases (decide (0≤r) && decide (r<32)) with
 | true=>rfl
 | false=>
  cases (decide (127≤r) && decide (r≤159)) with
  | true=>rfl
  | false=>
   cases (decide (768≤r) && decide (r≤879)) with
   | true=>rfl
   | false=>
    cases (decide (8203≤r) && decide (r≤8205)) with
    | true=>rfl
    | false=>
     cases (decide (65024≤r) && decide (r≤65039)) with
     | true=>rfl
     | false=>cases w2 r<;>rfl
theorem OS (l:List UInt8) (h:l≠[]):kX l=some (((Lib.decodeL l).1:Int),((Lib.decodeL l).2:Int)):=by
 have hg:Lib.decodeGo ⟨l.toArray⟩=Lib.decodeL l:=by
  unfold Lib.decodeGo Lib.decodeL
  have:(⟨l.toArray⟩:ByteArray).size≠0:=by
   show l.toArray.size≠0
   simpa using h
  rw [if_neg this]
 show some (((Lib.decodeGo ⟨l.toArray⟩).1:Int),((Lib.decodeGo ⟨l.toArray⟩).2:Int))=_
 rw [hg]
theorem Cz (r:Int):pX r=some (ctl r):=by
 unfold pX ctl lX
 by_cases h:r<32
 ·rw [decide_eq_true h];rfl
 ·rw [decide_eq_false h,tu];rfl
theorem bad_eq (l:List UInt8) (p:Nat) (h:p<l.length):zF l (p:Int)=some (iF l p).2.2.2.1:=by
 have hne:l.drop p≠[]:=by intro e;have:=congrArg List.length e;simp at this;omega
 unfold zF
 rw [show sub l (p:Int) ((l.length:Nat):Int)=some (l.drop p) by
  unfold sub
  rw [if_pos (by omega),Int.toNat_natCast,Int.toNat_natCast,List.take_of_length_le (by simp)]]
 rw [Option.bind_some,OS _ hne,Option.bind_some,tu,Option.bind_some]
 unfold iF
 have e1:decide ((((Lib.decodeL (l.drop p)).1:Nat):Int)=65533)=decide ((Lib.decodeL (l.drop p)).1=65533):=decide_eq_decide.2 (by omega)
 have e2:decide ((((Lib.decodeL (l.drop p)).2:Nat):Int)=1)=decide ((Lib.decodeL (l.drop p)).2=1):=decide_eq_decide.2 (by omega)
 show some (decide ((((Lib.decodeL (l.drop p)).1:Nat):Int)=65533) && decide ((((Lib.decodeL (l.drop p)).2:Nat):Int)=1))=_
 rw [e1,e2]
theorem Oc (l:List UInt8) (hl:l.length≤1000000000) (h: ∀ c∈sK l l.length 0,EB c=true):mX l=some (0,true):=by
 refine Ok.eq ?_
 unfold mX
 refine Ok.bind (Q:=fun d=>d= .inr ()) ?_ fun d hd=>by rw [hd];exact Ok.some rfl
 refine Ok.loop (fun k (z:List UInt8×Int)=> ∃ p:Nat,z=(l,(p:Int))∧p+k=l.length∧ ∀ c∈sK l l.length p,EB c=true) (fun k z hz=>?_) l.length _ (by omega) ⟨0,rfl,by omega,h⟩
 obtain ⟨p,rfl,hp,hc⟩:=hz
 refine Ok.ifs (fun hlt=>?_) fun _=>Ok.inr rfl
 have hlt:(p:Int)<(l.length:Int):=hlt
 have hpl:p<l.length:=by omega
 obtain ⟨er,ew⟩:=G9 l p
 have hw1:=Lib.decodeL_width (l.drop p)
 have hw2:=uq l p hpl
 rw [Cs hpl] at hc
 have h0:=hc _ List.mem_cons_self
 unfold EB at h0
 rw [Bool.and_eq_true] at h0
 have h01:(iF l p).2.2.2.1=false:=by simpa using h0.1
 have h02:ctl (iF l p).1=false:=by simpa using h0.2
 have h02:ctl ((Lib.decodeL (l.drop p)).1:Int)=false:=h02
 refine Ok.bind (Q:=fun r=>r.1=false∧r.2=(l,((p+(Lib.decodeL (l.drop p)).2:Nat):Int))) ?_ fun r hr=>Ok.cond (fun h=>by rw [hr.1] at h;cases h) fun _=>Ok.inl ⟨k - (Lib.decodeL (l.drop p)).2,by omega,_,hr.2,by omega,fun c hc'=>hc c (List.mem_cons_of_mem _ hc')⟩
 dsimp only
 rw [er,ew,Cz,Option.bind_some,h02]
 have e:((l,(p:Int)+((Lib.decodeL (l.drop p)).2:Int)):List UInt8×Int)=(l,((p+(Lib.decodeL (l.drop p)).2:Nat):Int)):=by rw [Int.natCast_add]
 refine Ok.cond (fun _=>Ok.ifs (fun _=>?_) fun _=>Ok.some ⟨rfl,e⟩) fun h=>(by cases h)
 rw [bad_eq l p hpl,h01]
 exact Ok.some ⟨rfl,e⟩
abbrev LF:Type:=List UInt8×(Int×(Int×Unit))
def piece (s:List UInt8) (c:Eg):List UInt8:=(s.drop c.2.1.toNat).take c.2.2.1.toNat
def xA (s:List UInt8) (out:List LF) (c:Eg):List LF:=
 if wd c.1=0∧0<out.length then out.set (out.length - 1) ((out.getD (out.length - 1) ([],(0,(0,())))).1++piece s c,(out.getD (out.length - 1) ([],(0,(0,())))).2)
 else out++[(piece s c,(c.2.1,(max (wd c.1) 1,())))]
def cellsS (s:List UInt8):List LF:=(sK s s.length 0).foldl (xA s) []
theorem CQ (s:List UInt8) (out:List LF) (c:Eg):(xA s out c).length≤out.length+1:=by
 unfold xA
 split
 ·rw [List.length_set];omega
 ·rw [List.length_append];simp
theorem getD_at {l:List LF} {i:Nat} (h:i<l.length):l.getD i ([],(0,(0,())))=l[i]:=by
 rw [List.getD_eq_getElem?_getD,List.getElem?_eq_getElem h];rfl
theorem OI (s:List UInt8) (hs:s.length≤1000000000):qK s=some (cellsS s):=by
 refine Ok.eq ?_
 unfold qK
 refine Ok.ends (Ok.loop (fun k (z:Int×List LF)=> ∃ p:Nat,z.1=(p:Int)∧p+k=s.length∧z.2.length≤p∧(∀ c∈z.2,c.1.length≤p)∧(sK s s.length p).foldl (xA s) z.2=cellsS s) (fun k z hz=>?_) s.length _ (by omega) ⟨0,rfl,by omega,by simp,by simp,rfl⟩)
 obtain ⟨i,l⟩:=z
 obtain ⟨p,hz1,hz2,hz3,hz4,hz5⟩:=hz
 dsimp only at hz1 hz2 hz3 hz4 hz5 ⊢
 subst hz1
 refine Ok.ifs (fun hlt=>?_) fun hge=>Ok.inr ?_
 case refine_2=>
  have hge: ¬ (p:Int)<(s.length:Int):=hge
  rw [uG (by omega)] at hz5
  exact hz5
 have hlt:(p:Int)<(s.length:Int):=hlt
 have hps:p<s.length:=by omega
 have hw1:=Lib.decodeL_width (s.drop p)
 have hw2:=uq s p hps
 have hne:s.drop p≠[]:=by intro e;have:=congrArg List.length e;simp at this;omega
 refine Ok.bind (Ok.sub (Q:=fun t=>t=s.drop p) (by omega) (by omega) (by omega) (by rw [Int.toNat_natCast,Int.toNat_natCast,List.take_of_length_le (by simp)])) fun t ht=>?_
 subst ht
 refine Ok.bind (Ok.of (OS _ hne) (Q:=fun r=>r=(((Lib.decodeL (s.drop p)).1:Int),((Lib.decodeL (s.drop p)).2:Int))) rfl) fun r hr=>?_
 subst hr
 dsimp only
 generalize hde:Lib.decodeL (s.drop p)=de at*
 obtain ⟨R,w⟩:=de
 dsimp only at hw1 hw2 ⊢
 have en:IntKind.wrap .i64 ((p:Int)+(w:Int))=((p+w:Nat):Int):=by rw [wrap64 (by omega) (by omega),Int.natCast_add]
 rw [en,QN,Option.bind_some]
 rw [Cs hps,hde,List.foldl_cons] at hz5
 have hchr:iF s p=((R:Int),((p:Int),((w:Int),(decide (R=65533) && decide (w=1),())))):=by unfold iF;rw [hde]
 have hpc:piece s (iF s p)=(s.drop p).take w:=by rw [hchr];unfold piece;simp
 have hpl:((s.drop p).take w).length=w:=by rw [List.length_take,List.length_drop];omega
 have hsub:Ok (sub s (p:Int) ((p+w:Nat):Int)) (· =(s.drop p).take w):=Ok.sub (by omega) (by omega) (by omega) (by
  rw [Int.toNat_natCast,Int.toNat_natCast,Nat.add_sub_cancel_left])
 refine Ok.bind (Q:=fun m:List LF=>m=xA s l (iF s p)∧ ∀ c∈m,c.1.length≤p+w) ?_ fun m hm=>Ok.inl ⟨k - w,by omega,p+w,rfl,by omega,?_,hm.2,?_⟩
 case refine_2=>
  have h1:=CQ s l (iF s p)
  show m.length≤_
  rw [hm.1];omega
 case refine_3=>
  show (sK s s.length (p+w)).foldl (xA s) m=_
  rw [hm.1];exact hz5
 refine Ok.bind (Q:=fun q=>q.2=l∧(q.1=true↔(wd R=0∧0<l.length))) (Ok.ifs (fun h=>Ok.some ⟨rfl,?_⟩) fun h=>Ok.some ⟨rfl,?_⟩) fun q hq=>?_
 ·have h:wd (R:Int)=0:=h
  rw [decide_eq_true_iff]
  exact ⟨fun h2=>⟨h,by have h2:(0:Int)<(l.length:Int):=h2;omega⟩,fun h2=>by show (0:Int)<(l.length:Int);omega⟩
 ·have h: ¬ wd (R:Int)=0:=h
  exact ⟨fun h2=>(by cases h2),fun h2=>absurd h2.1 h⟩
 obtain ⟨b,l'⟩:=q
 obtain ⟨hq1,hq2⟩:=hq
 dsimp only at hq1 hq2 ⊢
 subst hq1
 have hR:(iF s p).1=(R:Int):=by rw [hchr]
 refine Ok.cond (fun h=>?_) fun h=>?_
 ·obtain ⟨h1,h2⟩:=hq2.1 h
  have e1:IntKind.wrap .i64 (((l'.length:Nat):Int) - 1)=((l'.length - 1:Nat):Int):=by rw [wrap64 (by omega) (by omega)];omega
  rw [e1]
  have hlt':l'.length - 1<l'.length:=by omega
  refine Ok.bind (Ok.DK hlt') fun j hj=>?_
  subst hj
  refine Ok.bind (Ok.nth (Q:=(· =l'[l'.length - 1])) hlt' rfl) fun c hc=>?_
  subst hc
  refine Ok.bind hsub fun u hu=>?_
  subst hu
  have hcl:=hz4 _ (List.getElem_mem hlt')
  refine Ok.bind (Ok.cat (Q:=(· =l'[l'.length - 1].1++(s.drop p).take w)) (by omega) rfl) fun v hv=>?_
  subst hv
  refine Ok.bind (Ok.DK hlt') fun j hj=>?_
  subst hj
  refine Ok.bind (Ok.nth (Q:=(· =l'[l'.length - 1])) hlt' rfl) fun c hc=>?_
  subst hc
  refine Ok.some ⟨?_,fun c hc=>?_⟩
  ·unfold xA
   rw [hR,if_pos ⟨h1,h2⟩,getD_at hlt',hpc]
  ·rcases List.mem_or_eq_of_mem_set hc with hc | hc
   ·have:=hz4 c hc
    omega
   ·rw [hc]
    show (l'[l'.length - 1].1++(s.drop p).take w).length≤_
    rw [List.length_append];omega
 ·have hn: ¬ (wd (R:Int)=0∧0<l'.length):=fun h2=>by rw [hq2.2 h2] at h;cases h
  refine Ok.bind hsub fun u hu=>?_
  subst hu
  refine Ok.ends ((Ok.jk (by simp only [List.length_cons,List.length_nil];omega)).imp fun m hm=>⟨?_,fun c hc=>?_⟩)
  ·rw [hm]
   unfold xA
   rw [hR,if_neg hn,hpc,hchr]
  ·rw [hm] at hc
   rcases List.mem_append.1 hc with hc | hc
   ·have:=hz4 c hc
    omega
   ·rw [List.mem_singleton.1 hc]
    show ((s.drop p).take w).length≤_
    omega
end Go.Fn
/- Lines of a table, plainly: that they are laid, and how long they are. -/
namespace Go.Fn
open Go Go.Lf
abbrev Gl:Type:=List UInt8×(Int×((Int×(Int×Unit))×(Int×Unit)))
abbrev Ft:Type:=Int×(List (List Gl)×(List Gl×(Int×(List Gl×Unit))))
def GW (g:Gl):Prop:=1≤g.2.1∧g.2.1≤2
def bV:List Gl→Int
 | []=>0
 | g::r=>g.2.1+bV r
theorem lY: ∀ (l m:List Gl),bV (l++m)=bV l+bV m
 | [],m=>by simp [bV]
 | g::r,m=>by simp only [List.cons_append,bV,lY r m];omega
theorem ny: ∀ (l:List Gl),(∀ g∈l,GW g)→(l.length:Int)≤bV l∧bV l≤2*l.length
 | [],_=>by simp [bV]
 | g::r,h=>by
  have h1:=ny r fun g hg=>h g (List.mem_cons_of_mem _ hg)
  have h2:GW g:=h g List.mem_cons_self
  unfold GW at h2
  simp only [bV,List.length_cons]
  omega
theorem AL {l:List Gl} {i:Nat} {x:Gl} (h:l[i]? =some x):bV (l.take (i+1))=bV (l.take i)+x.2.1:=by
 rw [List.take_add_one,h,lY];simp [bV]
theorem wJ {l:List Gl} {i:Nat} {x:Gl} (h:l[i]? =some x):bV (l.drop i)=x.2.1+bV (l.drop (i+1)):=by
 obtain ⟨h1,h2⟩:=List.getElem?_eq_some_iff.1 h
 rw [List.drop_eq_getElem_cons h1,h2];rfl
theorem a_ {α:Type} {l:List α} {i:Nat} {x:α} (h:l[i]? =some x):i<l.length:=(List.getElem?_eq_some_iff.1 h).1
theorem fQ {α:Type} {l:List α} {i:Nat} {x:α} (h:l[i]? =some x):x∈l:=List.mem_of_getElem? h
theorem L9 {l:List Gl} (hl:l.length≤1000000000000) (hg: ∀ g∈l,GW g):Ok (uD l) (· =bV l):=by
 unfold uD
 refine Ok.ends (Ok.range l (by omega) (fun i s=>s=bV (l.take i)) (fun i x s hx hs=>?_) (fun s hs=>?_) rfl)
 ·have hi:=a_ hx
  subst hs
  refine Ok.yes (by show (i:Int)<_;omega) (Ok.bind (Ok.bH hx) fun r hr=>?_)
  subst hr
  have h1:=ny (l.take i) fun g hg'=>hg g (List.mem_of_mem_take hg')
  have h2:GW x:=hg x (fQ hx)
  unfold GW at h2
  rw [List.length_take] at h1
  refine Ok.inl ⟨aN (by omega),?_⟩
  rw [AL hx]
  exact wrap64 (by omega) (by omega)
 ·refine Ok.no (by show ¬ ((l.length:Int)<_);omega) (Ok.inr ?_)
  rw [hs,List.take_length]
def LW (w:Int) (l:List Gl):Prop:=(∀ g∈l,GW g)∧bV l≤w
theorem LW.len {w:Int} {l:List Gl} (h:LW w l):(l.length:Int)≤w:=by
 have:=ny l h.1
 have:=h.2
 omega
theorem LW.nil {w:Int} (h:0≤w):LW w []:=⟨fun _ h=>by simp at h,h⟩
theorem LW.mono {v w:Int} {l:List Gl} (h:LW v l) (hw:v≤w):LW w l:=⟨h.1,Int.le_trans h.2 hw⟩
theorem LW.app {v w:Int} {l m:List Gl} (h:LW v l) (h':LW w m):LW (v+w) (l++m):=by
 refine ⟨fun g hg=>?_,?_⟩
 ·rcases List.mem_append.1 hg with hg | hg
  ·exact h.1 g hg
  ·exact h'.1 g hg
 ·rw [lY]
  have:=h.2
  have:=h'.2
  omega
structure FI (w:Int) (n:Nat) (f:Ft):Prop where
 wd:f.1=w
 lo:1≤w
 hi:w≤200
 out:f.2.1.length≤n
 outs: ∀ l∈f.2.1,LW w l
 line:LW w f.2.2.1
 at_:f.2.2.2.1=bV f.2.2.1
 ws:f.2.2.2.2.1.length≤1
 w1: ∀ g∈f.2.2.2.2.1,g.2.1=1
theorem FI.mono {w:Int} {n m:Nat} {f:Ft} (h:FI w n f) (hm:n≤m):FI w m f:={ h with out:=Nat.le_trans h.out hm }
theorem FI.noW {w:Int} {n:Nat} {f:Ft} (h:FI w n f) {u:Unit}:FI w n (f.1,(f.2.1,(f.2.2.1,(f.2.2.2.1,([],u))))):={ h with ws:=by simp,w1:=by simp }
theorem FI.pos {w:Int} {n:Nat} {f:Ft} (h:FI w n f):0≤f.2.2.2.1∧f.2.2.2.1≤w:=by
 have h1:=ny _ h.line.1
 have h2:=h.line.2
 rw [h.at_]
 omega
theorem uf {w:Int} {n:Nat} {f:Ft} (h:FI w n f) (hn:n≤1000000000):Ok (aT f) fun f'=>FI w (n+1) f'∧f'.2.2.1=[]∧f'.2.2.2.2.1=[]:=by
 unfold aT
 have:=h.out
 refine Ok.bind (Ok.jk (by simp only [List.length_cons,List.length_nil];omega)) fun r hr=>Ok.some ?_
 subst hr
 refine ⟨{ wd:=h.wd,lo:=h.lo,hi:=h.hi,out:=?_,outs:=fun l hl=>?_,line:=LW.nil (by have:=h.lo;omega),at_:=rfl,ws:=by simp,w1:=by simp },rfl,rfl⟩
 ·simp only [List.length_append,List.length_cons,List.length_nil];omega
 ·rcases List.mem_append.1 hl with hl | hl
  ·exact h.outs l hl
  ·rw [List.mem_singleton.1 hl];exact h.line
theorem zY {w:Int} {n:Nat} {f:Ft} {g:Gl} (h:FI w n f) (hg:GW g) (hw:f.2.2.2.1+g.2.1≤w):Ok (bA f g) fun f'=>FI w n f'∧f'.2.2.2.1=f.2.2.2.1+g.2.1∧f'.2.2.2.2.1=f.2.2.2.2.1:=by
 unfold bA
 have h1:=h.line.len
 have h2:=h.hi
 have h3:=h.pos
 have h4:=hg
 unfold GW at h4
 have e:IntKind.wrap .i64 (f.2.2.2.1+g.2.1)=f.2.2.2.1+g.2.1:=wrap64 (by omega) (by omega)
 refine Ok.bind (Ok.jk (by simp only [List.length_cons,List.length_nil];omega)) fun r hr=>Ok.some ?_
 subst hr
 have hs:bV (f.2.2.1++[g])=f.2.2.2.1+g.2.1:=by rw [lY,h.at_];simp [bV]
 refine ⟨{ wd:=h.wd,lo:=h.lo,hi:=h.hi,out:=h.out,outs:=h.outs,line:=⟨fun x hx=>?_,?_⟩,at_:=e.trans hs.symm,ws:=h.ws,w1:=h.w1 },e,rfl⟩
 ·rcases List.mem_append.1 hx with hx | hx
  ·exact h.line.1 x hx
  ·rw [List.mem_singleton.1 hx];exact hg
 ·show bV (f.2.2.1++[g])≤w
  rw [hs];exact hw
theorem R4 (g:Gl):kW g=some (if g.1=[32] then 0 else if g.1=[9] then 1 else if g.1=[10] then 2 else 3):=by
 unfold kW
 by_cases h1:g.1=[32]
 ·rw [decide_eq_true h1,if_pos h1];rfl
 rw [decide_eq_false h1,if_neg h1]
 by_cases h2:g.1=[9]
 ·rw [decide_eq_true h2,if_pos h2];rfl
 rw [decide_eq_false h2,if_neg h2]
 by_cases h3:g.1=[10]
 ·rw [decide_eq_true h3,if_pos h3];rfl
 rw [decide_eq_false h3,if_neg h3];rfl
def il (g:Gl):Int:=if g.1=[32] then 0 else if g.1=[9] then 1 else if g.1=[10] then 2 else 3
theorem wR (g:Gl):Ok (kW g) (· =il g):=⟨_,R4 g,rfl⟩
theorem Ml {w:Int} {n:Nat} {f:Ft} {g:Gl} (h:FI w n f) (hn:n≤1000000000):Ok (cu f g) (FI w (n+1)):=by
 unfold cu
 have h2:=h.hi
 have h3:=h.pos
 have e1:IntKind.wrap .i64 (Int.tdiv f.2.2.2.1 8)=f.2.2.2.1 / 8:=by
  rw [Int.tdiv_eq_ediv_of_nonneg h3.1];exact wrap64 (by omega) (by omega)
 refine Ok.bind (Ok.nz (Q:=(· =f.2.2.2.1 / 8)) (by decide) e1) fun r hr=>?_
 subst hr
 have e2:IntKind.wrap .i64 ((IntKind.wrap .i64 (f.2.2.2.1 / 8+1))*8)=(f.2.2.2.1 / 8+1)*8:=by
  rw [wrap64 (x:=f.2.2.2.1 / 8+1) (by omega) (by omega)];exact wrap64 (by omega) (by omega)
 simp only [e2]
 have hw:=h.wd
 refine Ok.ifs (fun _=>Ok.ends ((uf h.noW hn).imp fun f' h'=>h'.1)) fun hlt=>Ok.ends ?_
 rw [hw] at hlt
 refine Ok.loop (fun k z=>z.1.2.1=1∧FI w n z.2∧z.2.2.2.2.1+k=(f.2.2.2.1 / 8+1)*8) (fun k z hz=>?_) ((f.2.2.2.1 / 8+1)*8 - f.2.2.2.1).toNat _ (by omega) ⟨rfl,h.noW,?_⟩
 ·obtain ⟨hz1,hz2,hz3⟩:=hz
  refine Ok.ifs (fun hc=>?_) fun hc=>Ok.inr (hz2.mono (by omega))
  refine Ok.bind (zY hz2 (show GW z.1 by unfold GW;omega) (by omega)) fun r hr=>Ok.inl ⟨k - 1,by omega,hz1,hr.1,?_⟩
  have:=hr.2.1
  show r.2.2.2.1+_=_
  omega
 ·show f.2.2.2.1+_=_
  omega
theorem Rf {w:Int} {n:Nat} {f:Ft} {g:Gl} (h:FI w n f) (hn:n≤1000000000):Ok (dS f g) (FI w (n+1)):=by
 unfold dS
 refine Ok.bind (wR g) fun k _=>Ok.ifs (fun _=>Ok.ends (Ml h hn)) fun _=>Ok.ends ((uf h hn).imp fun f' h'=>h'.1)
theorem Qt {l:List Gl} (hl:l.length≤1000000000000):Ok (lC l) fun e=>e=0→ ∀ g∈l,il g=3→GW g:=by
 unfold lC
 refine Ok.bind (Q:=Nx (fun _=> ∀ g∈l,il g=3→GW g) (fun k=>k=120)) ?_ fun r hr=>?_
 ·refine Ok.kr l (by omega) (fun i=> ∀ g∈l.take i,il g=3→GW g) (fun i x hx hi=>?_) (fun hi=>?_) (by simp)
  ·have hlt:=a_ hx
   refine Ok.yes (by show (i:Int)<_;omega) (Ok.bind (Ok.bH hx) fun r hr=>?_)
   subst hr
   refine Ok.bind (Q:=fun b=>b=false→il x=3→GW x) (Ok.bind (wR x) fun k hk=>?_) fun b hb=>Ok.cond (fun _=>Ok.inr rfl) fun h=>Ok.inl ⟨aN (by omega),fun g hg=>?_⟩
   ·subst hk
    refine Ok.ifs (fun hk=>?_) fun hk=>Ok.some fun _ h=>absurd h hk
    cases he:decide (x.1=[]) with
    | true=>exact Ok.some (by simp)
    | false=>
     refine Ok.ifs (fun h1=>Ok.some fun h2 _=>?_) fun h1=>Ok.some fun _ _=>?_
     ·have:=of_decide_eq_false h2
      unfold GW
      omega
     ·unfold GW
      omega
   ·rw [List.take_add_one,hx] at hg
    rcases List.mem_append.1 hg with hg | hg
    ·exact hi g hg
    ·rw [show g=x by simpa using hg]
     exact hb h
  ·refine Ok.no (by show ¬ ((l.length:Int)<_);omega) (Ok.inr ?_)
   show ∀ g∈l,_
   rw [List.take_length] at hi
   exact hi
 ·cases r with
  | inl u=>exact Ok.some fun _=>hr
  | inr k=>exact Ok.some fun h=>by rw [show k=120 from hr] at h;cases h
theorem Ry {w:Int} {n:Nat} {f:Ft} {a:List Gl} (h:FI w n f) (ha: ∀ g∈a,GW g∧g.2.1≤w) (hn:n+a.length≤900000000):Ok (bZ f a) fun f'=>FI w (n+a.length+1) f':=by
 unfold bZ
 have h2:=h.hi
 have h3:=h.pos
 have h4:=h.ws
 have hb:=ny a fun g hg=>(ha g hg).1
 refine Ok.bind (L9 (by omega) fun g hg=>(ha g hg).1) fun r hr=>?_
 subst hr
 have e1:IntKind.wrap .i64 (IntKind.wrap .i64 (f.2.2.2.1+((f.2.2.2.2.1.length:Nat):Int))+bV a)=f.2.2.2.1+f.2.2.2.2.1.length+bV a:=by
  rw [wrap64 (x:=f.2.2.2.1+((f.2.2.2.2.1.length:Nat):Int)) (by omega) (by omega)];exact wrap64 (by omega) (by omega)
 simp only [e1,h.wd]
 refine Ok.ifs (fun hc=>?_) fun hc=>?_
 ·refine Ok.bind (Ok.jk (by omega)) fun r hr=>?_
  have hr2: ∀ g∈r,GW g:=fun g hg=>by
   rw [hr] at hg
   rcases List.mem_append.1 hg with hg | hg
   ·have:=h.w1 g hg
    unfold GW
    omega
   ·exact (ha g hg).1
  have hs1: ∀ l:List Gl,(∀ g∈l,g.2.1=1)→bV l=l.length:=fun l=>by
   induction l with
   | nil=>intro _;rfl
   | cons x t ih=>
    intro hx
    simp only [bV,List.length_cons]
    rw [ih fun g hg=>hx g (List.mem_cons_of_mem _ hg),hx x List.mem_cons_self]
    omega
  have hrs:bV r=f.2.2.2.2.1.length+bV a:=by rw [hr,lY,hs1 _ h.w1]
  have hrl:r.length=f.2.2.2.2.1.length+a.length:=by rw [hr,List.length_append]
  refine Ok.bind (Q:=fun f'=> ∃ u,FI w n (f'.1,(f'.2.1,(f'.2.2.1,(f'.2.2.2.1,([],u)))))) ?_ fun f' hf'=>Ok.some ?_
  ·refine Ok.range r (by omega) (fun i s=>s.1=r∧(∃ u,FI w n (s.2.1,(s.2.2.1,(s.2.2.2.1,(s.2.2.2.2.1,([],u))))))∧s.2.2.2.2.1+bV (r.drop i)≤w) (fun i x s hx hs=>?_) (fun s hs=>?_) ⟨rfl,⟨(),by first | (have:=h.noW (u:=());rw [h.wd] at this;exact this) | exact h.noW⟩,?_⟩
   ·obtain ⟨hs1,⟨u,hs2⟩,hs3⟩:=hs
    have hlt:=a_ hx
    refine Ok.yes (by show (i:Int)<_;omega) (Ok.bind (Ok.DK (i:=i) (by rw [hs1];omega)) fun k hk=>?_)
    subst hk
    refine Ok.bind (Q:=(· =x)) (Ok.of (show nth s.1 i=_ by rw [hs1];exact hx) rfl) fun y hy=>?_
    subst hy
    have hp:=zY (g:=y) hs2 (hr2 y (fQ hx)) (by
     have:=wJ hx
     have:=ny (r.drop (i+1)) fun g hg=>hr2 g (List.mem_of_mem_drop hg)
     show s.2.2.2.2.1+y.2.1≤w
     omega)
    obtain ⟨f',hf',hq⟩:=hp
    unfold bA at hf'
    refine Ok.bind (Q:=fun q=>(∃ u,FI w n (q.1,(q.2.1,(q.2.2.1,(q.2.2.2.1,([],u))))))∧q.2.2.2.1=s.2.2.2.2.1+y.2.1) ?_ fun q hq=>Ok.inl ⟨aN (by omega),hs1,hq.1,?_⟩
    ·unfold iB
     obtain ⟨t,ht,he⟩:=Option.bind_eq_some_iff.1 hf'
     injection he with he
     subst he
     exact Ok.bind (Ok.of ht rfl) fun t' ht'=>Ok.some ⟨⟨_,by subst ht';exact hq.1⟩,hq.2.1⟩
    ·show q.2.2.2.1+bV (r.drop (i+1))≤w
     rw [hq.2]
     have:=wJ hx
     omega
   ·obtain ⟨hs1,hs2,_⟩:=hs
    exact Ok.no (by show ¬ ((r.length:Int)<_);omega) (Ok.inr hs2)
   ·show f.2.2.2.1+bV (r.drop 0)≤w
    rw [List.drop_zero,hrs]
    omega
  ·obtain ⟨u,hf'⟩:=hf'
   exact FI.mono hf' (by omega)
 ·refine Ok.bind (Q:=fun f'=>FI w (n+1) f'∧f'.2.2.2.2.1=[]) (Ok.ifs (fun _=>Ok.ends ((uf h.noW (by omega)).imp fun f' h'=>⟨h'.1,h'.2.2⟩)) fun _=>Ok.some ⟨h.noW.mono (by omega),rfl⟩) fun f1 hf1=>Ok.ends ?_
  refine Ok.range a (by omega) (fun i s=>FI w (n+1+i) s∧s.2.2.2.2.1=[]) (fun i x s hx hs=>?_) (fun s hs=>?_) hf1
  ·have hlt:=a_ hx
   refine Ok.yes (by show (i:Int)<_;omega) (Ok.bind (Ok.bH hx) fun y hy=>?_)
   subst hy
   have hx1:=ha x (fQ hx)
   have hx2:=hx1.1
   unfold GW at hx2
   have hp:=hs.1.pos
   have ew:IntKind.wrap .i64 (s.2.2.2.1+x.2.1)=s.2.2.2.1+x.2.1:=wrap64 (by omega) (by omega)
   refine Ok.bind (Q:=fun q=>q.2=x∧FI w (n+1+i+1) q.1∧q.1.2.2.2.2.1=[]∧q.1.2.2.2.1+x.2.1≤w) ?_ fun q hq=>?_
   ·refine Ok.ifs (fun _=>Ok.bind (uf hs.1 (by omega)) fun f2 hf2=>Ok.some ⟨rfl,hf2.1,hf2.2.2,?_⟩) fun hc=>Ok.some ⟨rfl,hs.1.mono (by omega),hs.2,?_⟩
    ·have:=hf2.1.at_
     rw [hf2.2.1] at this
     show f2.2.2.2.1+x.2.1≤w
     rw [this]
     show 0+x.2.1≤w
     omega
    ·have hw:=hs.1.wd
     have hc: ¬ (s.1<IntKind.wrap .i64 (s.2.2.2.1+x.2.1)):=hc
     rw [ew,hw] at hc
     show s.2.2.2.1+x.2.1≤w
     omega
   ·obtain ⟨hq1,hq2,hq3,hq4⟩:=hq
    refine Ok.bind (zY (g:=q.2) hq2 (by rw [hq1];exact hx1.1) (by rw [hq1];exact hq4)) fun f3 hf3=>Ok.inl ⟨aN (by omega),FI.mono hf3.1 (by omega),?_⟩
    exact hf3.2.2.trans hq3
  ·exact Ok.no (by show ¬ ((a.length:Int)<_);omega) (Ok.inr (hs.1.mono (by omega)))
theorem Dq {w:Int} {n:Nat} {f:Ft} {a:List Gl} (h:FI w n f) (ha: ∀ g∈a,GW g∧g.2.1≤w) (hn:n+a.length≤900000000):Ok (eZ a f) fun r=>r.1=[]∧FI w (n+a.length+1) r.2:=by
 unfold eZ
 refine Ok.ifs (fun _=>Ok.bind (Ry h ha hn) fun r hr=>Ok.some ⟨rfl,hr⟩) fun hc=>Ok.some ⟨?_,h.mono (by omega)⟩
 have hc: ¬ ((0:Int)<(a.length:Int)):=hc
 show a=[]
 exact List.eq_nil_of_length_eq_zero (by omega)
theorem Lj {l:List Gl} {w:Int} (hl:l.length≤100000000):Ok (iw l w) fun r=>r.1.length≤3*l.length+2∧ ∀ x∈r.1,LW w x∧1≤w∧w≤200:=by
 unfold iw
 refine Ok.bind (Q:=fun b=>b=false→1≤w∧w≤200) ?_ fun b hb=>Ok.cond (fun _=>Ok.some ⟨by simp,by simp⟩) fun h=>?_
 ·cases h1:decide (w<1) with
  | true=>exact Ok.some (by simp)
  | false=>
   have h1:=of_decide_eq_false h1
   exact Ok.some fun h=>⟨by omega,by have:=of_decide_eq_false h;omega⟩
 obtain ⟨hlo,hhi⟩:=hb h
 refine Ok.bind (Qt (by omega)) fun e he=>Ok.ifs (fun _=>Ok.some ⟨by simp,by simp⟩) fun h0=>?_
 have hg:=he (by omega)
 refine Ok.bind (Q:=fun r=> ∃ n,FI w n r.1∧n+r.2.length≤3*l.length∧ ∀ g∈r.2,GW g∧g.2.1≤w) ?_ fun r hr=>?_
 ·refine Ok.range l (by omega) (fun i s=> ∃ n,FI w n s.2∧n+s.1.length≤3*i∧ ∀ g∈s.1,GW g∧g.2.1≤w) (fun i x s hx hs=>?_) (fun s hs=>?_) ⟨0,⟨rfl,hlo,hhi,by simp,by simp,LW.nil (by omega),rfl,by simp,by simp⟩,by simp,by simp⟩
  ·obtain ⟨n,hs1,hs2,hs3⟩:=hs
   have hlt:=a_ hx
   refine Ok.yes (by show (i:Int)<_;omega) (Ok.bind (Q:=fun r=> ∃ n,FI w n r.2∧n+r.1.length≤3*(i+1)∧ ∀ g∈r.1,GW g∧g.2.1≤w) ?_ fun r hr=>Ok.inl ⟨aN (by omega),hr⟩)
   refine Ok.bind (Ok.bH hx) fun y hy=>?_
   subst hy
   refine Ok.bind (wR x) fun k hk=>?_
   refine Ok.bind (Q:=Nx (fun q=>q.1=s.1∧q.2.1=s.2) (Nx (fun q:List Gl×Ft=> ∃ n,FI w n q.2∧n+q.1.length≤3*(i+1)∧ ∀ g∈q.1,GW g∧g.2.1≤w) (fun q:List Gl×Ft=> ∃ n,FI w n q.2∧n+q.1.length≤3*(i+1)∧ ∀ g∈q.1,GW g∧g.2.1≤w))) ?_ fun q hq=>?_
   ·refine Ok.ifs (fun h3=>?_) fun h3=>Ok.ifs (fun h4=>?_) fun h4=>Ok.ifs (fun h5=>Ok.inl ⟨rfl,rfl⟩) fun h5=>Ok.ifs (fun h6=>Ok.inl ⟨rfl,rfl⟩) fun h6=>Ok.inr ⟨n,hs1,by show n+s.1.length≤_;omega,hs3⟩
    ·have hgx:=hg x (fQ hx) (by rw [← hk];exact h3)
     refine Ok.bind (Q:=fun q=>q.1=s.1∧q.2.1=s.2∧GW q.2.2∧q.2.2.2.1≤w) (Ok.ifs (fun _=>Ok.some ⟨rfl,rfl,by unfold GW;simp,hlo⟩) fun hc=>Ok.some ⟨rfl,rfl,hgx,Int.not_lt.1 hc⟩) fun q hq=>?_
     obtain ⟨hq1,hq2,hq3,hq4⟩:=hq
     have hsl:s.1.length≤3*i:=by omega
     refine Ok.bind (Ok.jk (by rw [hq1];simp only [List.length_cons,List.length_nil];omega)) fun t ht=>Ok.inr ⟨n,?_,?_,?_⟩
     ·show FI w n q.2.1
      rw [hq2];exact hs1
     ·show n+t.length≤_
      rw [ht,hq1,List.length_append];simp only [List.length_cons,List.length_nil];omega
     ·show ∀ g∈t,_
      rw [ht,hq1]
      intro g hg
      rcases List.mem_append.1 hg with hg | hg
      ·exact hs3 g hg
      ·rw [List.mem_singleton.1 hg];exact ⟨hq3,hq4⟩
    ·refine Ok.bind (Q:=fun p:List Gl×Ft=> ∃ n,FI w n p.2∧n+p.1.length≤3*(i+1)∧ ∀ g∈p.1,GW g∧g.2.1≤w) ?_ fun p hp=>Ok.inr hp
     refine Ok.bind (Dq (f:=s.2) (a:=s.1) hs1 hs3 (by omega)) fun t ht=>?_
     refine Ok.bind (Q:=fun q=>q.2.1=[]∧q.2.2.1=t.2) ?_ fun q hq=>?_
     ·exact Ok.ifs (fun _=>Ok.some ⟨ht.1,rfl⟩) fun _=>Ok.some ⟨ht.1,rfl⟩
     ·obtain ⟨hq1,hq2⟩:=hq
      refine Ok.cond (fun hc=>Ok.some ⟨n+s.1.length+1,?_,?_,?_⟩) fun _=>Ok.some ⟨n+s.1.length+1,?_,?_,?_⟩
      ·have h9:=ht.2
       rw [← hq2] at h9
       exact { h9 with ws:=by simp,w1:=by intro g hg;rw [List.mem_singleton.1 hg] }
      ·show _+q.2.1.length≤_
       rw [hq1];simp only [List.length_nil];omega
      ·show ∀ g∈q.2.1,_
       rw [hq1];simp
      ·show FI w _ q.2.2.1
       rw [hq2];exact ht.2
      ·show _+q.2.1.length≤_
       rw [hq1];simp only [List.length_nil];omega
      ·show ∀ g∈q.2.1,_
       rw [hq1];simp
   ·cases q with
    | inl a=>
     obtain ⟨ha1,ha2⟩:=hq
     refine Ok.bind (Dq (f:=a.2.1) (a:=a.1) (by rw [ha2];exact hs1) (by rw [ha1];exact hs3) (by rw [ha1];omega)) fun t ht=>?_
     rw [ha1] at ht
     refine Ok.bind (Rf ht.2 (by omega)) fun f2 hf2=>Ok.some ⟨_,hf2,?_,?_⟩
     ·show _+t.1.length≤_
      rw [ht.1];simp only [List.length_nil];omega
     ·show ∀ g∈t.1,_
      rw [ht.1];simp
    | inr b=>
     cases b with
     | inl c=>exact Ok.some hq
     | inr c=>exact Ok.some hq
  ·obtain ⟨n,hs1,hs2,hs3⟩:=hs
   exact Ok.no (by show ¬ ((l.length:Int)<_);omega) (Ok.inr ⟨n,hs1,hs2,hs3⟩)
 ·obtain ⟨n,hr1,hr2,hr3⟩:=hr
  refine Ok.bind (Dq hr1 hr3 (by omega)) fun t ht=>?_
  refine Ok.bind (Q:=FI w (3*l.length+2)) (Ok.ifs (fun _=>Ok.ends ((uf ht.2 (by omega)).imp fun f' hf'=>hf'.1.mono (by omega))) fun _=>Ok.some (ht.2.mono (by omega))) fun f' hf'=>Ok.some ⟨hf'.out,fun x hx=>⟨hf'.outs x hx,hlo,hhi⟩⟩
end Go.Fn
