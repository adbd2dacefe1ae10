/- Parts of the proof. -/
import Derived.Test.YtabfljbbjpfcgaaGreatDoorProg
import Derived.Test.YtabfljbbjpfcgaaGreatDoorQAD
import Derived.KernelRfl
open Go Go.Lf
set_option maxRecDepth 10000
namespace Go.Fn
noncomputable def vm_Machine__isCtx:Lf.Ctx:=⟨12,Tys,[],[],[],[],[],TysEq,[],some 4611686018427387904,TysIm,[]⟩
noncomputable def vm_Machine__isCode:Go.Code:=(Go.Proofs.Tryz.f40.body).getD .skip
def vm_Machine__isAnn:Lf.Ann:= .no
noncomputable def vm_Machine__is (a0:(Int)×(xT3×xT171)):Option (Bool):=
 some (decide ((a0.1:Int)=(1:Int)))
theorem vm_Machine__is_eq (a0:(Int)×(xT3×xT171)):Lf.fnE vm_Machine__isCtx vm_Machine__isCode vm_Machine__isAnn [.val (.ptr (.st xY196))] [.bool] [.tmp 2] (a0)=vm_Machine__is a0:=by kernel_rfl
noncomputable def vm_Machine__isEnt:Nat×Lf.Entry:=(40,⟨[.val (.ptr (.st xY196))],[.bool],fun z=>vm_Machine__is z⟩)
theorem vm_Machine__is_ok:Lf.EntryOk Go.Proofs.Tryz.prog GG 40 vm_Machine__isEnt.2:=
 Lf.fn_ok (c:=vm_Machine__isCtx) (code:=vm_Machine__isCode) (an:=vm_Machine__isAnn) (slots:=[.tmp 2]) (fn:=Go.Proofs.Tryz.f40) (by kernel_rfl) ⟨Tys_ok,Lf.FnsOk.look .nil,Lf.IpsOk.look .nil,TysEq_ok,TysIm_ok,Lf.IvsOk.look .nil,Lf.FxsOk.look .nil⟩ (by kernel_rfl) (by kernel_rfl) (by kernel_rfl) (by kernel_rfl) (by kernel_rfl) (Nat.le_of_ble_eq_true rfl) (by simp [Lf.Ty.top]) (by simp [Lf.Ty.top]) fun z r h=>(vm_Machine__is_eq z).trans h
noncomputable def vm_plainCtx:Lf.Ctx:=⟨2,Tys,[],[],[],[],[],TysEq,[],some 4611686018427387904,TysIm,[]⟩
noncomputable def vm_plainCode:Go.Code:=(Go.Proofs.Tryz.f117.body).getD .skip
def vm_plainAnn:Lf.Ann:= .no
noncomputable def vm_plain  :Option ((Int)×((Int)×(Unit))):=
 some ((0:Int),((7:Int),()))
theorem vm_plain_eq  :Lf.fnE vm_plainCtx vm_plainCode vm_plainAnn [] [(.st xY1)] [.cell 0 74] ()=vm_plain  :=by kernel_rfl
noncomputable def vm_plainEnt:Nat×Lf.Entry:=(117,⟨[],[(.st xY1)],fun _=>vm_plain ⟩)
theorem vm_plain_ok:Lf.EntryOk Go.Proofs.Tryz.prog GG 117 vm_plainEnt.2:=
 Lf.fn_ok (c:=vm_plainCtx) (code:=vm_plainCode) (an:=vm_plainAnn) (slots:=[.cell 0 74]) (fn:=Go.Proofs.Tryz.f117) (by kernel_rfl) ⟨Tys_ok,Lf.FnsOk.look .nil,Lf.IpsOk.look .nil,TysEq_ok,TysIm_ok,Lf.IvsOk.look .nil,Lf.FxsOk.look .nil⟩ (by kernel_rfl) (by kernel_rfl) (by kernel_rfl) (by kernel_rfl) (by kernel_rfl) (Nat.le_of_ble_eq_true rfl) (by simp [Lf.Ty.top]) (by simp [Lf.Ty.top]) fun z r h=>(vm_plain_eq ).trans h
noncomputable def vm_Machine__topCtx:Lf.Ctx:=⟨33,Tys,[vm_plainEnt],[],[],[],[],TysEq,[],some 4611686018427387904,TysIm,[]⟩
noncomputable def vm_Machine__topCode:Go.Code:=(Go.Proofs.Tryz.f76.body).getD .skip
def vm_Machine__topAnn:Lf.Ann:=(.seq .no (.seq (.seq .no (.loop ⟨[0],[(2, .ref 2 [] 0)],[(3,(.int .i64))],[(2,74,(.st xY1))],[]⟩ (.more (.ext 0) ⟨[],[(2, .ref 2 [] 0)],[],[(2,74,(.st xY1))],[]⟩ (.one .ret ⟨[],[(2, .ref 2 [] 0)],[],[(2,74,(.st xY1))],[]⟩)) (.seq .no (.seq (.seq .no (.seq (.join (.one .nrm ⟨[3,0],[(2, .ref 2 [] 0)],[(20, .bool)],[(2,74,(.st xY1))],[]⟩) .no) .no)) .no)))) .no))
noncomputable def vm_Machine__top (a0:(Int)×(xT3×xT171)):Option ((Int)×((Int)×(Unit))):=
 (Lf.loopU (σ:=(Int)×((Int)×((Int)×(Unit)))) (κ:=((Int)×((Int)×(Unit)))⊕((Int)×((Int)×(Unit)))) (fun z1=>
   bif (decide ((0:Int)≤z1.1)) then ((Lf.idx (Lf.arL xY38 (32:Nat) a0.2.2.2.2.2.2.2.2.1) z1.1)).bind fun r2=>
   (bif (decide ((r2.1:Int)=(8:Int))) then some ((decide ((r2.1:Int)=(8:Int))),z1.2)
    else bif (decide ((r2.1:Int)=(2:Int))) then some ((decide ((r2.1:Int)=(2:Int))),z1.2)
    else bif (decide ((r2.1:Int)=(3:Int))) then some ((decide ((r2.1:Int)=(3:Int))),z1.2)
    else some ((decide ((r2.1:Int)=(4:Int))),z1.2)).bind fun r3=>
   bif r3.1 then ((Lf.idx (Lf.arL xY38 (32:Nat) a0.2.2.2.2.2.2.2.2.1) z1.1)).bind fun r4=>
   some (.inr (.inr r4.2.2.1))
   else some (.inl ((Go.IntKind.wrap .i64 (z1.1 - (1:Int))),r3.2))
   else some (.inr (.inl z1.2))) ((Go.IntKind.wrap .i64 (a0.2.2.2.2.2.2.2.2.2.1 - (1:Int))),((0:Int),((0:Int),()))):Option (((Int)×((Int)×(Unit)))⊕((Int)×((Int)×(Unit))))).bind fun r5=>
 Lf.onSum r5 (fun a6=>
 (Go.Fn.vm_plain).bind fun r7=>
 some r7) (fun b8=>
 some b8)
theorem vm_Machine__top_eq (a0:(Int)×(xT3×xT171)):Lf.fnE vm_Machine__topCtx vm_Machine__topCode vm_Machine__topAnn [.val (.ptr (.st xY196))] [(.st xY1)] [.cell 2 74] (a0)=vm_Machine__top a0:=by kernel_rfl
noncomputable def vm_Machine__topEnt:Nat×Lf.Entry:=(76,⟨[.val (.ptr (.st xY196))],[(.st xY1)],fun z=>vm_Machine__top z⟩)
theorem vm_Machine__top_ok:Lf.EntryOk Go.Proofs.Tryz.prog GG 76 vm_Machine__topEnt.2:=
 Lf.fn_ok (c:=vm_Machine__topCtx) (code:=vm_Machine__topCode) (an:=vm_Machine__topAnn) (slots:=[.cell 2 74]) (fn:=Go.Proofs.Tryz.f76) (by kernel_rfl) ⟨Tys_ok,Lf.FnsOk.look (.con vm_plain_ok .nil),Lf.IpsOk.look .nil,TysEq_ok,TysIm_ok,Lf.IvsOk.look .nil,Lf.FxsOk.look .nil⟩ (by kernel_rfl) (by kernel_rfl) (by kernel_rfl) (by kernel_rfl) (by kernel_rfl) (Nat.le_of_ble_eq_true rfl) (by simp [Lf.Ty.top]) (by simp [Lf.Ty.top]) fun z r h=>(vm_Machine__top_eq z).trans h
noncomputable def style_ApplyCtx:Lf.Ctx:=⟨21,Tys,[],[],[],[],[],TysEq,[],some 4611686018427387904,TysIm,[]⟩
noncomputable def style_ApplyCode:Go.Code:=(Go.Proofs.Tryz.f118.body).getD .skip
def style_ApplyAnn:Lf.Ann:=(.seq .no (.seq .no (.seq (.join (.one .nrm ⟨[],[(4, .ref 4 [] 0),(2, .ref 2 [] 0)],[],[(4,74,(.st xY1)),(2,74,(.st xY1))],[]⟩) .no) .no)))
noncomputable def style_Apply (a0:(Int)×((Int)×(Unit))) (a1:(Int)×((Int)×((Int)×(Unit)))):Option ((Int)×((Int)×(Unit))):=
 (bif (decide ((a1.2.2.1:Int)≠(-(1:Int)))) then some (((0:Int),((0:Int),())),((Lf.bits .andNot .i64 (Lf.bits .or .i64 a0.1 a1.1) a1.2.1),(a1.2.2.1,a0.2.2)))
  else some (((0:Int),((0:Int),())),((Lf.bits .andNot .i64 (Lf.bits .or .i64 a0.1 a1.1) a1.2.1),a0.2))).bind fun r1=>
 some r1.2
theorem style_Apply_eq (a0:(Int)×((Int)×(Unit))) (a1:(Int)×((Int)×((Int)×(Unit)))):Lf.fnE style_ApplyCtx style_ApplyCode style_ApplyAnn [.val (.st xY1), .val xY16] [(.st xY1)] [.cell 4 74] (a0,a1)=style_Apply a0 a1:=by kernel_rfl
noncomputable def style_ApplyEnt:Nat×Lf.Entry:=(118,⟨[.val (.st xY1), .val xY16],[(.st xY1)],fun z=>style_Apply z.1 z.2⟩)
theorem style_Apply_ok:Lf.EntryOk Go.Proofs.Tryz.prog GG 118 style_ApplyEnt.2:=
 Lf.fn_ok (c:=style_ApplyCtx) (code:=style_ApplyCode) (an:=style_ApplyAnn) (slots:=[.cell 4 74]) (fn:=Go.Proofs.Tryz.f118) (by kernel_rfl) ⟨Tys_ok,Lf.FnsOk.look .nil,Lf.IpsOk.look .nil,TysEq_ok,TysIm_ok,Lf.IvsOk.look .nil,Lf.FxsOk.look .nil⟩ (by kernel_rfl) (by kernel_rfl) (by kernel_rfl) (by kernel_rfl) (by kernel_rfl) (Nat.le_of_ble_eq_true rfl) (by simp [Lf.Ty.top]) (by simp [Lf.Ty.top]) fun z r h=>(style_Apply_eq z.1 z.2).trans h
noncomputable def vm_Machine__styledCtx:Lf.Ctx:=⟨19,Tys,[style_ApplyEnt],[],[],[],[],TysEq,[],some 4611686018427387904,TysIm,[]⟩
noncomputable def vm_Machine__styledCode:Go.Code:=(Go.Proofs.Tryz.f78.body).getD .skip
def vm_Machine__styledAnn:Lf.Ann:=(.seq .no (.seq .no (.seq (.draw 9) .no)))
noncomputable def vm_Machine__styled (a0:(Int)×(xT3×xT171)) (a1:(Int)×((Int)×(Unit))) (a2:Int):Option ((Int)×((Int)×(Unit))):=
 bif (decide (a2<(0:Int))) then some a1
 else ((Lf.idx a0.2.1 a2)).bind fun r1=>
 ((Go.Fn.style_Apply a1 r1)).bind fun r2=>
 some r2
theorem vm_Machine__styled_eq (a0:(Int)×(xT3×xT171)) (a1:(Int)×((Int)×(Unit))) (a2:Int):Lf.fnE vm_Machine__styledCtx vm_Machine__styledCode vm_Machine__styledAnn [.val (.ptr (.st xY196)), .val (.st xY1), .val (.int .i64)] [(.st xY1)] [.cell 6 74] (a0,a1,a2)=vm_Machine__styled a0 a1 a2:=by kernel_rfl
noncomputable def vm_Machine__styledEnt:Nat×Lf.Entry:=(78,⟨[.val (.ptr (.st xY196)), .val (.st xY1), .val (.int .i64)],[(.st xY1)],fun z=>vm_Machine__styled z.1 z.2.1 z.2.2⟩)
theorem vm_Machine__styled_ok:Lf.EntryOk Go.Proofs.Tryz.prog GG 78 vm_Machine__styledEnt.2:=
 Lf.fn_ok (c:=vm_Machine__styledCtx) (code:=vm_Machine__styledCode) (an:=vm_Machine__styledAnn) (slots:=[.cell 6 74]) (fn:=Go.Proofs.Tryz.f78) (by kernel_rfl) ⟨Tys_ok,Lf.FnsOk.look (.con style_Apply_ok .nil),Lf.IpsOk.look .nil,TysEq_ok,TysIm_ok,Lf.IvsOk.look .nil,Lf.FxsOk.look .nil⟩ (by kernel_rfl) (by kernel_rfl) (by kernel_rfl) (by kernel_rfl) (by kernel_rfl) (Nat.le_of_ble_eq_true rfl) (by simp [Lf.Ty.top]) (by simp [Lf.Ty.top]) fun z r h=>(vm_Machine__styled_eq z.1 z.2.1 z.2.2).trans h
noncomputable def vm_Machine__pushCtx:Lf.Ctx:=⟨27,Tys,[],[],[],[],[],TysEq,[],some 4611686018427387904,TysIm,[]⟩
noncomputable def vm_Machine__pushCode:Go.Code:=(Go.Proofs.Tryz.f77.body).getD .skip
def vm_Machine__pushAnn:Lf.Ann:=(.seq .no (.seq (.draw 12) .no))
noncomputable def vm_Machine__push (a0:(Int)×(xT3×xT171)) (a1:Int) (a2:Int) (a3:(Int)×((Int)×(Unit))):Option ((Int)×(xT3×xT171)):=
 ((Lf.chk (32:Nat) a0.2.2.2.2.2.2.2.2.2.1)).bind fun r1=>
 ((Lf.nth (Lf.arL xY38 (32:Nat) a0.2.2.2.2.2.2.2.2.1) r1)).bind fun r2=>
 some (Lf.u8 a0 ((Lf.arS xY38 (32:Nat) a0.2.2.2.2.2.2.2.2.1 r1 (a1,(a2,(a3,())))),((Go.IntKind.wrap .i64 (a0.2.2.2.2.2.2.2.2.2.1+(1:Int))),a0.2.2.2.2.2.2.2.2.2.2)))
theorem vm_Machine__push_eq (a0:(Int)×(xT3×xT171)) (a1:Int) (a2:Int) (a3:(Int)×((Int)×(Unit))):Lf.fnE vm_Machine__pushCtx vm_Machine__pushCode vm_Machine__pushAnn [.obj 86 (.st xY197) (.st xY197) [], .val (.int .i64), .val (.int .i64), .val (.st xY1)] [] [] (a0,a1,a2,a3)=vm_Machine__push a0 a1 a2 a3:=by kernel_rfl
noncomputable def vm_Machine__pushEnt:Nat×Lf.Entry:=(77,⟨[.obj 86 (.st xY197) (.st xY197) [], .val (.int .i64), .val (.int .i64), .val (.st xY1)],[],fun z=>vm_Machine__push z.1 z.2.1 z.2.2.1 z.2.2.2⟩)
theorem vm_Machine__push_ok:Lf.EntryOk Go.Proofs.Tryz.prog GG 77 vm_Machine__pushEnt.2:=
 Lf.fn_ok (c:=vm_Machine__pushCtx) (code:=vm_Machine__pushCode) (an:=vm_Machine__pushAnn) (slots:=[]) (fn:=Go.Proofs.Tryz.f77) (by kernel_rfl) ⟨Tys_ok,Lf.FnsOk.look .nil,Lf.IpsOk.look .nil,TysEq_ok,TysIm_ok,Lf.IvsOk.look .nil,Lf.FxsOk.look .nil⟩ (by kernel_rfl) (by kernel_rfl) (by kernel_rfl) (by kernel_rfl) (by kernel_rfl) (Nat.le_of_ble_eq_true rfl) (by simp [Lf.Ty.top]) (by simp [Lf.Ty.top]) fun z r h=>(vm_Machine__push_eq z.1 z.2.1 z.2.2.1 z.2.2.2).trans h
noncomputable def vm_Machine__popCtx:Lf.Ctx:=⟨30,Tys,[],[],[],[],[],TysEq,[],some 4611686018427387904,TysIm,[]⟩
noncomputable def vm_Machine__popCode:Go.Code:=(Go.Proofs.Tryz.f79.body).getD .skip
def vm_Machine__popAnn:Lf.Ann:=(.seq .no (.seq .no (.seq (.soup 10) (.seq (.draw 9) .no))))
noncomputable def vm_Machine__pop (a0:(Int)×(xT3×xT171)):Option (((Int)×xT9)×((Int)×(xT3×xT171))):=
 ((Lf.chk (32:Nat) (Go.IntKind.wrap .i64 (a0.2.2.2.2.2.2.2.2.2.1 - (1:Int))))).bind fun r1=>
 ((Lf.nth (Lf.arL xY38 (32:Nat) a0.2.2.2.2.2.2.2.2.1) r1)).bind fun r2=>
 ((Lf.chk (32:Nat) (Go.IntKind.wrap .i64 (a0.2.2.2.2.2.2.2.2.2.1 - (1:Int))))).bind fun r3=>
 ((Lf.nth (Lf.arL xY38 (32:Nat) a0.2.2.2.2.2.2.2.2.1) r3)).bind fun r4=>
 some (r2,(a0.1,(a0.2.1,(a0.2.2.1,(a0.2.2.2.1,(a0.2.2.2.2.1,(a0.2.2.2.2.2.1,(a0.2.2.2.2.2.2.1,(a0.2.2.2.2.2.2.2.1,((Lf.arS xY38 (32:Nat) a0.2.2.2.2.2.2.2.2.1 r3 ((0:Int),((0:Int),(((0:Int),((0:Int),())),())))),((Go.IntKind.wrap .i64 (a0.2.2.2.2.2.2.2.2.2.1 - (1:Int))),a0.2.2.2.2.2.2.2.2.2.2)))))))))))
theorem vm_Machine__pop_eq (a0:(Int)×(xT3×xT171)):Lf.fnE vm_Machine__popCtx vm_Machine__popCode vm_Machine__popAnn [.obj 86 (.st xY197) (.st xY197) []] [xY38] [.cell 2 76] (a0)=vm_Machine__pop a0:=by kernel_rfl
noncomputable def vm_Machine__popEnt:Nat×Lf.Entry:=(79,⟨[.obj 86 (.st xY197) (.st xY197) []],[xY38],fun z=>vm_Machine__pop z⟩)
theorem vm_Machine__pop_ok:Lf.EntryOk Go.Proofs.Tryz.prog GG 79 vm_Machine__popEnt.2:=
 Lf.fn_ok (c:=vm_Machine__popCtx) (code:=vm_Machine__popCode) (an:=vm_Machine__popAnn) (slots:=[.cell 2 76]) (fn:=Go.Proofs.Tryz.f79) (by kernel_rfl) ⟨Tys_ok,Lf.FnsOk.look .nil,Lf.IpsOk.look .nil,TysEq_ok,TysIm_ok,Lf.IvsOk.look .nil,Lf.FxsOk.look .nil⟩ (by kernel_rfl) (by kernel_rfl) (by kernel_rfl) (by kernel_rfl) (by kernel_rfl) (Nat.le_of_ble_eq_true rfl) (by simp [Lf.Ty.top]) (by simp [Lf.Ty.top]) fun z r h=>(vm_Machine__pop_eq z).trans h
noncomputable def vm_Machine__tellCtx:Lf.Ctx:=⟨23,Tys,[],[17],[],[(17,xY49)],[],TysEq,[],some 4611686018427387904,TysIm,[]⟩
noncomputable def vm_Machine__tellCode:Go.Code:=(Go.Proofs.Tryz.f80.body).getD .skip
def vm_Machine__tellAnn:Lf.Ann:= .no
noncomputable def vm_Machine__tell (a0:(Int)×(xT3×xT171)) (a1:List xT25):Option ((Int)×(xT3×xT171)):=
 bif (decide ((2000:Int)≤(((List.length a0.2.2.2.2.2.2.2.2.2.2.2.2.2.2.2.2.2.2.2.2.2.2.1):Nat):Int))) then some (Lf.u23 a0 (true,a0.2.2.2.2.2.2.2.2.2.2.2.2.2.2.2.2.2.2.2.2.2.2.2.2))
 else ((Lf.app (24:Nat) a0.2.2.2.2.2.2.2.2.2.2.2.2.2.2.2.2.2.2.2.2.2.2.1 (a1::([]:List (List xT25))))).bind fun r1=>
 some (Lf.u22 a0 (r1,a0.2.2.2.2.2.2.2.2.2.2.2.2.2.2.2.2.2.2.2.2.2.2.2))
theorem vm_Machine__tell_eq (a0:(Int)×(xT3×xT171)) (a1:List xT25):Lf.fnE vm_Machine__tellCtx vm_Machine__tellCode vm_Machine__tellAnn [.obj 86 (.st xY197) (.st xY197) [], .val (.sl (.st xY42))] [] [] (a0,a1)=vm_Machine__tell a0 a1:=by kernel_rfl
noncomputable def vm_Machine__tellEnt:Nat×Lf.Entry:=(80,⟨[.obj 86 (.st xY197) (.st xY197) [], .val (.sl (.st xY42))],[],fun z=>vm_Machine__tell z.1 z.2⟩)
theorem vm_Machine__tell_ok:Lf.EntryOk Go.Proofs.Tryz.prog GG 80 vm_Machine__tellEnt.2:=
 Lf.fn_ok (c:=vm_Machine__tellCtx) (code:=vm_Machine__tellCode) (an:=vm_Machine__tellAnn) (slots:=[]) (fn:=Go.Proofs.Tryz.f80) (by kernel_rfl) ⟨Tys_ok,Lf.FnsOk.look .nil,Lf.IpsOk.look .nil,TysEq_ok,TysIm_ok,Lf.IvsOk.look .nil,Lf.FxsOk.look .nil⟩ (by kernel_rfl) (by kernel_rfl) (by kernel_rfl) (by kernel_rfl) (by kernel_rfl) (Nat.le_of_ble_eq_true rfl) (by simp [Lf.Ty.top]) (by simp [Lf.Ty.top]) fun z r h=>(vm_Machine__tell_eq z.1 z.2).trans h
noncomputable def table_kindCtx:Lf.Ctx:=⟨11,Tys,[],[],[],[],[],TysEq,[],some 4611686018427387904,TysIm,[]⟩
noncomputable def table_kindCode:Go.Code:=(Go.Proofs.Tryz.f149.body).getD .skip
def table_kindAnn:Lf.Ann:= .no
noncomputable def table_kind (a0:(List (UInt8))×((Int)×xT10)):Option (Int):=
 bif (decide ((a0.1:List (UInt8))=((32:UInt8)::([]:List (UInt8))))) then some (0:Int)
 else bif (decide ((a0.1:List (UInt8))=((9:UInt8)::([]:List (UInt8))))) then some (1:Int)
 else bif (decide ((a0.1:List (UInt8))=((10:UInt8)::([]:List (UInt8))))) then some (2:Int)
 else some (3:Int)
theorem table_kind_eq (a0:(List (UInt8))×((Int)×xT10)):Lf.fnE table_kindCtx table_kindCode table_kindAnn [.val (.st xY42)] [(.int .i64)] [.tmp 2] (a0)=table_kind a0:=by kernel_rfl
noncomputable def table_kindEnt:Nat×Lf.Entry:=(149,⟨[.val (.st xY42)],[(.int .i64)],fun z=>table_kind z⟩)
theorem table_kind_ok:Lf.EntryOk Go.Proofs.Tryz.prog GG 149 table_kindEnt.2:=
 Lf.fn_ok (c:=table_kindCtx) (code:=table_kindCode) (an:=table_kindAnn) (slots:=[.tmp 2]) (fn:=Go.Proofs.Tryz.f149) (by kernel_rfl) ⟨Tys_ok,Lf.FnsOk.look .nil,Lf.IpsOk.look .nil,TysEq_ok,TysIm_ok,Lf.IvsOk.look .nil,Lf.FxsOk.look .nil⟩ (by kernel_rfl) (by kernel_rfl) (by kernel_rfl) (by kernel_rfl) (by kernel_rfl) (Nat.le_of_ble_eq_true rfl) (by simp [Lf.Ty.top]) (by simp [Lf.Ty.top]) fun z r h=>(table_kind_eq z).trans h
noncomputable def table_checkCtx:Lf.Ctx:=⟨30,Tys,[table_kindEnt],[],[],[],[],TysEq,[],some 4611686018427387904,TysIm,[]⟩
noncomputable def table_checkCode:Go.Code:=(Go.Proofs.Tryz.f146.body).getD .skip
def table_checkAnn:Lf.Ann:=(.seq .no (.seq (.seq .no (.loop ⟨[5,6],[],[(7,(.int .i64))],[],[]⟩ (.more (.ext 0) ⟨[],[],[],[],[]⟩ (.one .ret ⟨[],[],[(2,(.int .i64))],[],[]⟩)) (.seq .no (.seq .no (.seq (.seq .no (.seq (.join (.one .nrm ⟨[5,6,7],[],[(28, .bool)],[],[]⟩) .no) .no)) .no))))) .no))
noncomputable def table_check (a0:List xT25):Option (Int):=
 (Lf.loopU (σ:=Int) (κ:=(Unit)⊕(Int)) (fun z1=>
   bif (decide (z1<(((List.length a0):Nat):Int))) then ((Lf.idx a0 z1)).bind fun r2=>
   (((Go.Fn.table_kind r2)).bind fun r3=>
    bif (decide ((r3:Int)=(3:Int))) then bif (!(decide ((r2.1:List (UInt8))=([]:List (UInt8))))) then bif (decide ((r2.2.1:Int)≠(1:Int))) then some (decide ((r2.2.1:Int)≠(2:Int)))
    else some false
    else some true
    else some false).bind fun r4=>
   bif r4 then some (.inr (.inr (120:Int)))
   else some (.inl (Go.IntKind.wrap .i64 (z1+(1:Int))))
   else some (.inr (.inl ()))) (0:Int):Option ((Unit)⊕(Int))).bind fun r5=>
 Lf.onSum r5 (fun a6=>
 some (0:Int)) (fun b7=>
 some b7)
theorem table_check_eq (a0:List xT25):Lf.fnE table_checkCtx table_checkCode table_checkAnn [.val (.sl (.st xY42))] [(.int .i64)] [.tmp 2] (a0)=table_check a0:=by kernel_rfl
noncomputable def table_checkEnt:Nat×Lf.Entry:=(146,⟨[.val (.sl (.st xY42))],[(.int .i64)],fun z=>table_check z⟩)
theorem table_check_ok:Lf.EntryOk Go.Proofs.Tryz.prog GG 146 table_checkEnt.2:=
 Lf.fn_ok (c:=table_checkCtx) (code:=table_checkCode) (an:=table_checkAnn) (slots:=[.tmp 2]) (fn:=Go.Proofs.Tryz.f146) (by kernel_rfl) ⟨Tys_ok,Lf.FnsOk.look (.con table_kind_ok .nil),Lf.IpsOk.look .nil,TysEq_ok,TysIm_ok,Lf.IvsOk.look .nil,Lf.FxsOk.look .nil⟩ (by kernel_rfl) (by kernel_rfl) (by kernel_rfl) (by kernel_rfl) (by kernel_rfl) (Nat.le_of_ble_eq_true rfl) (by simp [Lf.Ty.top]) (by simp [Lf.Ty.top]) fun z r h=>(table_check_eq z).trans h
noncomputable def table_filler__endCtx:Lf.Ctx:=⟨24,Tys,[],[6],[],[(6,xY49)],[],TysEq,[],some 4611686018427387904,TysIm,[]⟩
noncomputable def table_filler__endCode:Go.Code:=(Go.Proofs.Tryz.f151.body).getD .skip
def table_filler__endAnn:Lf.Ann:=(.seq (.soup 10) .no)
noncomputable def table_filler__end (a0:(Int)×xT81):Option ((Int)×xT81):=
 ((Lf.app (24:Nat) a0.2.1 (a0.2.2.1::([]:List (List xT25))))).bind fun r1=>
 some (a0.1,(r1,(([]:List xT25),((0:Int),(([]:List xT25),a0.2.2.2.2.2)))))
theorem table_filler__end_eq (a0:(Int)×xT81):Lf.fnE table_filler__endCtx table_filler__endCode table_filler__endAnn [.obj 229 (.st xY91) (.st xY91) []] [] [] (a0)=table_filler__end a0:=by kernel_rfl
noncomputable def table_filler__endEnt:Nat×Lf.Entry:=(151,⟨[.obj 229 (.st xY91) (.st xY91) []],[],fun z=>table_filler__end z⟩)
theorem table_filler__end_ok:Lf.EntryOk Go.Proofs.Tryz.prog GG 151 table_filler__endEnt.2:=
 Lf.fn_ok (c:=table_filler__endCtx) (code:=table_filler__endCode) (an:=table_filler__endAnn) (slots:=[]) (fn:=Go.Proofs.Tryz.f151) (by kernel_rfl) ⟨Tys_ok,Lf.FnsOk.look .nil,Lf.IpsOk.look .nil,TysEq_ok,TysIm_ok,Lf.IvsOk.look .nil,Lf.FxsOk.look .nil⟩ (by kernel_rfl) (by kernel_rfl) (by kernel_rfl) (by kernel_rfl) (by kernel_rfl) (Nat.le_of_ble_eq_true rfl) (by simp [Lf.Ty.top]) (by simp [Lf.Ty.top]) fun z r h=>(table_filler__end_eq z).trans h
noncomputable def table_filler__putCtx:Lf.Ctx:=⟨23,Tys,[],[8],[],[(8,(.rw 78 (.st xY42)))],[],TysEq,[],some 4611686018427387904,TysIm,[]⟩
noncomputable def table_filler__putCode:Go.Code:=(Go.Proofs.Tryz.f170.body).getD .skip
def table_filler__putAnn:Lf.Ann:=(.seq .no (.seq (.soup 7) (.draw 9)))
noncomputable def table_filler__put (a0:(Int)×xT81) (a1:(List (UInt8))×((Int)×xT10)):Option ((Int)×xT81):=
 ((Lf.app (48:Nat) a0.2.2.1 (a1::([]:List xT25)))).bind fun r1=>
 some (Lf.u2 a0 (r1,((Go.IntKind.wrap .i64 (a0.2.2.2.1+a1.2.1)),a0.2.2.2.2)))
theorem table_filler__put_eq (a0:(Int)×xT81) (a1:(List (UInt8))×((Int)×xT10)):Lf.fnE table_filler__putCtx table_filler__putCode table_filler__putAnn [.obj 229 (.st xY91) (.st xY91) [], .val (.st xY42)] [] [] (a0,a1)=table_filler__put a0 a1:=by kernel_rfl
noncomputable def table_filler__putEnt:Nat×Lf.Entry:=(170,⟨[.obj 229 (.st xY91) (.st xY91) [], .val (.st xY42)],[],fun z=>table_filler__put z.1 z.2⟩)
theorem table_filler__put_ok:Lf.EntryOk Go.Proofs.Tryz.prog GG 170 table_filler__putEnt.2:=
 Lf.fn_ok (c:=table_filler__putCtx) (code:=table_filler__putCode) (an:=table_filler__putAnn) (slots:=[]) (fn:=Go.Proofs.Tryz.f170) (by kernel_rfl) ⟨Tys_ok,Lf.FnsOk.look .nil,Lf.IpsOk.look .nil,TysEq_ok,TysIm_ok,Lf.IvsOk.look .nil,Lf.FxsOk.look .nil⟩ (by kernel_rfl) (by kernel_rfl) (by kernel_rfl) (by kernel_rfl) (by kernel_rfl) (Nat.le_of_ble_eq_true rfl) (by simp [Lf.Ty.top]) (by simp [Lf.Ty.top]) fun z r h=>(table_filler__put_eq z.1 z.2).trans h
noncomputable def table_filler__putDCtx:Lf.Ctx:=⟨23,Tys,[],[8],[],[(8,(.rw 78 (.st xY42)))],[],TysEq,[],some 4611686018427387904,TysIm,[]⟩
noncomputable def table_filler__putDCode:Go.Code:=(Go.Proofs.Tryz.f170.body).getD .skip
def table_filler__putDAnn:Lf.Ann:=(.seq .no (.seq (.soup 7) (.draw 9)))
noncomputable def table_filler__putD (a0:(Int)×((List (List xT25))×xT48)) (a1:(List (UInt8))×((Int)×xT10)):Option ((Int)×((List (List xT25))×xT48)):=
 ((Lf.app (48:Nat) a0.2.2.1 (a1::([]:List xT25)))).bind fun r1=>
 some (Lf.u2 a0 (r1,((Go.IntKind.wrap .i64 (a0.2.2.2.1+a1.2.1)),a0.2.2.2.2)))
theorem table_filler__putD_eq (a0:(Int)×((List (List xT25))×xT48)) (a1:(List (UInt8))×((Int)×xT10)):Lf.fnE table_filler__putDCtx table_filler__putDCode table_filler__putDAnn [.obj 229 (.st xY92) (.st xY92) [], .val (.st xY42)] [] [] (a0,a1)=table_filler__putD a0 a1:=by kernel_rfl
noncomputable def table_filler__putDEnt:Nat×Lf.Entry:=(170,⟨[.obj 229 (.st xY92) (.st xY92) [], .val (.st xY42)],[],fun z=>table_filler__putD z.1 z.2⟩)
theorem table_filler__putD_ok:Lf.EntryOk Go.Proofs.Tryz.prog GG 170 table_filler__putDEnt.2:=
 Lf.fn_ok (c:=table_filler__putDCtx) (code:=table_filler__putDCode) (an:=table_filler__putDAnn) (slots:=[]) (fn:=Go.Proofs.Tryz.f170) (by kernel_rfl) ⟨Tys_ok,Lf.FnsOk.look .nil,Lf.IpsOk.look .nil,TysEq_ok,TysIm_ok,Lf.IvsOk.look .nil,Lf.FxsOk.look .nil⟩ (by kernel_rfl) (by kernel_rfl) (by kernel_rfl) (by kernel_rfl) (by kernel_rfl) (Nat.le_of_ble_eq_true rfl) (by simp [Lf.Ty.top]) (by simp [Lf.Ty.top]) fun z r h=>(table_filler__putD_eq z.1 z.2).trans h
noncomputable def table_filler__tabbedCtx:Lf.Ctx:=⟨34,Tys,[table_filler__endEnt,table_filler__putEnt],[],[],[],[],TysEq,[],some 4611686018427387904,TysIm,[]⟩
noncomputable def table_filler__tabbedCode:Go.Code:=(Go.Proofs.Tryz.f171.body).getD .skip
def table_filler__tabbedAnn:Lf.Ann:=(.seq .no (.seq .no (.seq .no (.seq .no (.seq .no (.loop ⟨[4],[(3, .ref 3 [] 0),(0, .ref 0 [] 0)],[],[(3,78,(.st xY42)),(0,229,(.st xY91))],[]⟩ (.one (.ext 0) ⟨[],[(0, .ref 0 [] 0)],[],[(0,229,(.st xY91))],[]⟩) .no))))))
noncomputable def table_filler__tabbed (a0:(Int)×xT81) (a1:(List (UInt8))×((Int)×xT10)):Option ((Int)×xT81):=
 ((Lf.nz (8:Int) (Go.IntKind.wrap .i64 (Int.tdiv a0.2.2.2.1 (8:Int))))).bind fun r1=>
 bif (decide (a0.1≤(Go.IntKind.wrap .i64 ((Go.IntKind.wrap .i64 (r1+(1:Int)))*(8:Int))))) then ((Go.Fn.table_filler__end (Lf.u4 a0 (([]:List xT25),a0.2.2.2.2.2)))).bind fun r2=>
 some r2
 else (Lf.loopU (σ:=xT25×((Int)×xT81)) (κ:=(Int)×xT81) (fun z3=>
   bif (decide (z3.2.2.2.2.1<(Go.IntKind.wrap .i64 ((Go.IntKind.wrap .i64 (r1+(1:Int)))*(8:Int))))) then ((Go.Fn.table_filler__put z3.2 z3.1)).bind fun r4=>
   some (.inl (z3.1,r4))
   else some (.inr z3.2)) ((((32:UInt8)::([]:List (UInt8))),((1:Int),a1.2.2)),(a0.1,(a0.2.1,(a0.2.2.1,(a0.2.2.2.1,(([]:List xT25),a0.2.2.2.2.2)))))):Option ((Int)×xT81)).bind fun r5=>
 some r5
theorem table_filler__tabbed_eq (a0:(Int)×xT81) (a1:(List (UInt8))×((Int)×xT10)):Lf.fnE table_filler__tabbedCtx table_filler__tabbedCode table_filler__tabbedAnn [.obj 229 (.st xY91) (.st xY91) [], .val (.st xY42)] [] [] (a0,a1)=table_filler__tabbed a0 a1:=by kernel_rfl
noncomputable def table_filler__tabbedEnt:Nat×Lf.Entry:=(171,⟨[.obj 229 (.st xY91) (.st xY91) [], .val (.st xY42)],[],fun z=>table_filler__tabbed z.1 z.2⟩)
theorem table_filler__tabbed_ok:Lf.EntryOk Go.Proofs.Tryz.prog GG 171 table_filler__tabbedEnt.2:=
 Lf.fn_ok (c:=table_filler__tabbedCtx) (code:=table_filler__tabbedCode) (an:=table_filler__tabbedAnn) (slots:=[]) (fn:=Go.Proofs.Tryz.f171) (by kernel_rfl) ⟨Tys_ok,Lf.FnsOk.look (.con table_filler__end_ok (.con table_filler__put_ok .nil)),Lf.IpsOk.look .nil,TysEq_ok,TysIm_ok,Lf.IvsOk.look .nil,Lf.FxsOk.look .nil⟩ (by kernel_rfl) (by kernel_rfl) (by kernel_rfl) (by kernel_rfl) (by kernel_rfl) (Nat.le_of_ble_eq_true rfl) (by simp [Lf.Ty.top]) (by simp [Lf.Ty.top]) fun z r h=>(table_filler__tabbed_eq z.1 z.2).trans h
noncomputable def table_filler__leapCtx:Lf.Ctx:=⟨12,Tys,[table_kindEnt,table_filler__endEnt,table_filler__tabbedEnt],[],[],[],[],TysEq,[],some 4611686018427387904,TysIm,[]⟩
noncomputable def table_filler__leapCode:Go.Code:=(Go.Proofs.Tryz.f150.body).getD .skip
def table_filler__leapAnn:Lf.Ann:= .no
noncomputable def table_filler__leap (a0:(Int)×xT81) (a1:(List (UInt8))×((Int)×xT10)):Option ((Int)×xT81):=
 ((Go.Fn.table_kind a1)).bind fun r1=>
 bif (decide ((r1:Int)=(1:Int))) then ((Go.Fn.table_filler__tabbed a0 a1)).bind fun r2=>
 some r2
 else ((Go.Fn.table_filler__end a0)).bind fun r3=>
 some r3
theorem table_filler__leap_eq (a0:(Int)×xT81) (a1:(List (UInt8))×((Int)×xT10)):Lf.fnE table_filler__leapCtx table_filler__leapCode table_filler__leapAnn [.obj 229 (.st xY91) (.st xY91) [], .val (.st xY42)] [] [] (a0,a1)=table_filler__leap a0 a1:=by kernel_rfl
noncomputable def table_filler__leapEnt:Nat×Lf.Entry:=(150,⟨[.obj 229 (.st xY91) (.st xY91) [], .val (.st xY42)],[],fun z=>table_filler__leap z.1 z.2⟩)
theorem table_filler__leap_ok:Lf.EntryOk Go.Proofs.Tryz.prog GG 150 table_filler__leapEnt.2:=
 Lf.fn_ok (c:=table_filler__leapCtx) (code:=table_filler__leapCode) (an:=table_filler__leapAnn) (slots:=[]) (fn:=Go.Proofs.Tryz.f150) (by kernel_rfl) ⟨Tys_ok,Lf.FnsOk.look (.con table_kind_ok (.con table_filler__end_ok (.con table_filler__tabbed_ok .nil))),Lf.IpsOk.look .nil,TysEq_ok,TysIm_ok,Lf.IvsOk.look .nil,Lf.FxsOk.look .nil⟩ (by kernel_rfl) (by kernel_rfl) (by kernel_rfl) (by kernel_rfl) (by kernel_rfl) (Nat.le_of_ble_eq_true rfl) (by simp [Lf.Ty.top]) (by simp [Lf.Ty.top]) fun z r h=>(table_filler__leap_eq z.1 z.2).trans h
noncomputable def table_WideCtx:Lf.Ctx:=⟨18,Tys,[],[],[],[],[],TysEq,[],some 4611686018427387904,TysIm,[]⟩
noncomputable def table_WideCode:Go.Code:=(Go.Proofs.Tryz.f152.body).getD .skip
def table_WideAnn:Lf.Ann:=(.seq .no (.seq .no (.seq (.seq .no (.loop ⟨[6,7],[],[(8,(.int .i64)),(3,(.int .i64))],[],[]⟩ (.one (.ext 0) ⟨[],[],[(3,(.int .i64))],[],[]⟩) .no)) .no)))
noncomputable def table_Wide (a0:List xT25):Option (Int):=
 (Lf.loopU (σ:=(Int)×(Int)) (κ:=Int) (fun z1=>
   bif (decide (z1.1<(((List.length a0):Nat):Int))) then ((Lf.idx a0 z1.1)).bind fun r2=>
   some (.inl ((Go.IntKind.wrap .i64 (z1.1+(1:Int))),(Go.IntKind.wrap .i64 (z1.2+r2.2.1))))
   else some (.inr z1.2)) ((0:Int),(0:Int)):Option (Int)).bind fun r3=>
 some r3
theorem table_Wide_eq (a0:List xT25):Lf.fnE table_WideCtx table_WideCode table_WideAnn [.val (.sl (.st xY42))] [(.int .i64)] [.tmp 2] (a0)=table_Wide a0:=by kernel_rfl
noncomputable def table_WideEnt:Nat×Lf.Entry:=(152,⟨[.val (.sl (.st xY42))],[(.int .i64)],fun z=>table_Wide z⟩)
theorem table_Wide_ok:Lf.EntryOk Go.Proofs.Tryz.prog GG 152 table_WideEnt.2:=
 Lf.fn_ok (c:=table_WideCtx) (code:=table_WideCode) (an:=table_WideAnn) (slots:=[.tmp 2]) (fn:=Go.Proofs.Tryz.f152) (by kernel_rfl) ⟨Tys_ok,Lf.FnsOk.look .nil,Lf.IpsOk.look .nil,TysEq_ok,TysIm_ok,Lf.IvsOk.look .nil,Lf.FxsOk.look .nil⟩ (by kernel_rfl) (by kernel_rfl) (by kernel_rfl) (by kernel_rfl) (by kernel_rfl) (Nat.le_of_ble_eq_true rfl) (by simp [Lf.Ty.top]) (by simp [Lf.Ty.top]) fun z r h=>(table_Wide_eq z).trans h
noncomputable def table_filler__wordCtx:Lf.Ctx:=⟨79,Tys,[table_filler__endEnt,table_WideEnt,table_filler__putEnt],[],[],[],[],TysEq,[(39,table_filler__putDEnt)],some 4611686018427387904,TysIm,[]⟩
noncomputable def table_filler__wordCode:Go.Code:=(Go.Proofs.Tryz.f148.body).getD .skip
def table_filler__wordAnn:Lf.Ann:=(.seq (.seq (.draw 18) (.cnd (.seq (.seq .no (.loop ⟨[32],[(0, .ref 0 [] 0)],[(33,(.int .i64)),(31,(.mr 78 (.st xY42)))],[(0,229,(.st xY92))],[]⟩ (.one (.ext 0) ⟨[],[(0, .ref 0 [] 0)],[],[(0,229,(.st xY92))],[]⟩) .no)) .no) .no)) (.seq .no (.seq (.join (.one .nrm ⟨[1],[(0, .ref 0 [] 0)],[],[(0,229,(.st xY91))],[]⟩) .no) (.seq .no (.loop ⟨[55,56],[(0, .ref 0 [] 0)],[(57,(.int .i64))],[(0,229,(.st xY91))],[]⟩ (.one (.ext 2) ⟨[],[(0, .ref 0 [] 0)],[],[(0,229,(.st xY91))],[]⟩) (.seq .no (.seq .no (.seq (.seq .no (.seq (.join (.one .nrm ⟨[55,56,57],[(0, .ref 0 [] 0),(7, .ref 7 [] 0)],[],[(0,229,(.st xY91)),(7,78,(.st xY42))],[]⟩) (.seq (.draw 12) .no)) .no)) .no))))))))
noncomputable def table_filler__word (a0:(Int)×xT81) (a1:List xT25):Option ((Int)×xT81):=
 ((Go.Fn.table_Wide a1)).bind fun r1=>
 bif (decide ((Go.IntKind.wrap .i64 ((Go.IntKind.wrap .i64 (a0.2.2.2.1+(((List.length a0.2.2.2.2.1):Nat):Int)))+r1))≤a0.1)) then ((Lf.app (48:Nat) a0.2.2.2.2.1 a1)).bind fun r2=>
 (Lf.loopU (σ:=(Int)×((List xT25)×((Int)×((List (List xT25))×xT48)))) (κ:=(Int)×((List (List xT25))×xT48)) (fun z3=>
   bif (decide (z3.1<(((List.length r2):Nat):Int))) then ((Lf.chk (List.length z3.2.1) z3.1)).bind fun r4=>
   ((Lf.nth z3.2.1 r4)).bind fun r5=>
   ((Go.Fn.table_filler__putD z3.2.2 r5)).bind fun r6=>
   some (.inl ((Go.IntKind.wrap .i64 (z3.1+(1:Int))),(z3.2.1,r6)))
   else some (.inr z3.2.2)) ((0:Int),(r2,(a0.1,(a0.2.1,(a0.2.2.1,(a0.2.2.2.1,((),a0.2.2.2.2.2))))))):Option ((Int)×((List (List xT25))×xT48))).bind fun r7=>
 some (Lf.u4 r7 (([]:List xT25),r7.2.2.2.2.2))
 else (bif (decide ((0:Int)<(((List.length a0.2.2.1):Nat):Int))) then ((Go.Fn.table_filler__end (Lf.u4 a0 (([]:List xT25),a0.2.2.2.2.2)))).bind fun r8=>
  some r8
  else some (Lf.u4 a0 (([]:List xT25),a0.2.2.2.2.2))).bind fun r9=>
 (Lf.loopU (σ:=(Int)×((Int)×xT81)) (κ:=(Int)×xT81) (fun z10=>
   bif (decide (z10.1<(((List.length a1):Nat):Int))) then ((Lf.idx a1 z10.1)).bind fun r11=>
   (bif (decide (z10.2.1<(Go.IntKind.wrap .i64 (z10.2.2.2.2.1+r11.2.1)))) then ((Go.Fn.table_filler__end z10.2)).bind fun r12=>
    some (r12,r11)
    else some (z10.2,r11)).bind fun r13=>
   ((Go.Fn.table_filler__put r13.1 r13.2)).bind fun r14=>
   some (.inl ((Go.IntKind.wrap .i64 (z10.1+(1:Int))),r14))
   else some (.inr z10.2)) ((0:Int),r9):Option ((Int)×xT81)).bind fun r15=>
 some r15
theorem table_filler__word_eq (a0:(Int)×xT81) (a1:List xT25):Lf.fnE table_filler__wordCtx table_filler__wordCode table_filler__wordAnn [.obj 229 (.st xY91) (.st xY91) [], .val (.sl (.st xY42))] [] [] (a0,a1)=table_filler__word a0 a1:=by kernel_rfl
noncomputable def table_filler__wordEnt:Nat×Lf.Entry:=(148,⟨[.obj 229 (.st xY91) (.st xY91) [], .val (.sl (.st xY42))],[],fun z=>table_filler__word z.1 z.2⟩)
theorem table_filler__word_ok:Lf.EntryOk Go.Proofs.Tryz.prog GG 148 table_filler__wordEnt.2:=
 Lf.fn_ok (c:=table_filler__wordCtx) (code:=table_filler__wordCode) (an:=table_filler__wordAnn) (slots:=[]) (fn:=Go.Proofs.Tryz.f148) (by kernel_rfl) ⟨Tys_ok,Lf.FnsOk.look (.con table_filler__end_ok (.con table_Wide_ok (.con table_filler__put_ok .nil))),Lf.IpsOk.look .nil,TysEq_ok,TysIm_ok,Lf.IvsOk.look .nil,Lf.FxsOk.look (.cons table_filler__putD_ok .nil)⟩ (by kernel_rfl) (by kernel_rfl) (by kernel_rfl) (by kernel_rfl) (by kernel_rfl) (Nat.le_of_ble_eq_true rfl) (by simp [Lf.Ty.top]) (by simp [Lf.Ty.top]) fun z r h=>(table_filler__word_eq z.1 z.2).trans h
noncomputable def table_Fill_1Ctx:Lf.Ctx:=⟨8,Tys,[table_filler__wordEnt],[],[],[],[],TysEq,[],some 4611686018427387904,TysIm,[]⟩
noncomputable def table_Fill_1Code:Go.Code:=(Go.Proofs.Tryz.f147.body).getD .skip
def table_Fill_1Ann:Lf.Ann:= .no
noncomputable def table_Fill_1 (a0:List xT25) (a1:(Int)×xT81):Option ((List xT25)×((Int)×xT81)):=
 bif (decide ((0:Int)<(((List.length a0):Nat):Int))) then ((Go.Fn.table_filler__word a1 a0)).bind fun r1=>
 some (([]:List xT25),r1)
 else some (a0,a1)
theorem table_Fill_1_eq (a0:List xT25) (a1:(Int)×xT81):Lf.fnE table_Fill_1Ctx table_Fill_1Code table_Fill_1Ann [.obj 50 (.rw 78 (.st xY42)) (.rw 78 (.st xY42)) [], .obj 229 (.st xY91) (.st xY91) [] .cel] [] [] (a0,a1)=table_Fill_1 a0 a1:=by kernel_rfl
noncomputable def table_Fill_1Ent:Nat×Lf.Entry:=(147,⟨[.obj 50 (.rw 78 (.st xY42)) (.rw 78 (.st xY42)) [], .obj 229 (.st xY91) (.st xY91) [] .cel],[],fun z=>table_Fill_1 z.1 z.2⟩)
theorem table_Fill_1_ok:Lf.EntryOk Go.Proofs.Tryz.prog GG 147 table_Fill_1Ent.2:=
 Lf.fn_ok (c:=table_Fill_1Ctx) (code:=table_Fill_1Code) (an:=table_Fill_1Ann) (slots:=[]) (fn:=Go.Proofs.Tryz.f147) (by kernel_rfl) ⟨Tys_ok,Lf.FnsOk.look (.con table_filler__word_ok .nil),Lf.IpsOk.look .nil,TysEq_ok,TysIm_ok,Lf.IvsOk.look .nil,Lf.FxsOk.look .nil⟩ (by kernel_rfl) (by kernel_rfl) (by kernel_rfl) (by kernel_rfl) (by kernel_rfl) (Nat.le_of_ble_eq_true rfl) (by simp [Lf.Ty.top]) (by simp [Lf.Ty.top]) fun z r h=>(table_Fill_1_eq z.1 z.2).trans h
noncomputable def table_FillCtx:Lf.Ctx:=⟨95,Tys,[table_checkEnt,table_Fill_1Ent,table_kindEnt,table_filler__leapEnt,table_filler__endEnt],[4,49,94],[],[(4,xY49),(7, .bn),(8,(.rw 78 (.st xY42))),(24,(.st xY91)),(49,(.rw 78 (.st xY42))),(72,(.mr 78 (.st xY42))),(94,xY49)],[],TysEq,[],some 4611686018427387904,TysIm,[]⟩
noncomputable def table_FillCode:Go.Code:=(Go.Proofs.Tryz.f119.body).getD .skip
def table_FillAnn:Lf.Ann:=(.seq .no (.seq (.seq (.join (.one .nrm ⟨[1,0],[],[(17, .bool)],[],[]⟩) .no) .no) (.seq .no (.seq .no (.seq .no (.seq .no (.seq .no (.seq (.seq .no (.loop ⟨[1,27,28],[(8, .ref 8 [] 0),(7, .cel 25 [] 0),(9, .clo 147 0 [(false,8,[],0),(true,25,[],0)])],[(29,(.int .i64))],[(8,50,(.rw 78 (.st xY42))),(25,229,(.st xY91))],[]⟩ (.one (.ext 0) ⟨[],[(7, .cel 25 [] 0),(9, .clo 147 0 [(false,8,[],0),(true,25,[],0)])],[],[(25,229,(.st xY91)),(8,50,(.rw 78 (.st xY42)))],[]⟩) (.seq .no (.seq .no (.seq (.join (.one .nrm ⟨[1,27,28,29],[(8, .ref 8 [] 0),(7, .cel 25 [] 0),(9, .clo 147 0 [(false,8,[],0),(true,25,[],0)])],[],[(8,50,(.rw 78 (.st xY42))),(25,229,(.st xY91))],[]⟩) (.seq .no (.seq .no (.seq (.join (.more .nrm ⟨[1,27,28,29],[(8, .ref 8 [] 0),(7, .cel 25 [] 0),(9, .clo 147 0 [(false,8,[],0),(true,25,[],0)]),(11, .ref 11 [] 0)],[],[(8,50,(.rw 78 (.st xY42))),(25,229,(.st xY91)),(11,78,(.st xY42))],[]⟩ (.more (.ext 2) ⟨[1,27,28,29],[(8, .ref 8 [] 0),(7, .cel 25 [] 0),(9, .clo 147 0 [(false,8,[],0),(true,25,[],0)])],[],[(8,50,(.rw 78 (.st xY42))),(25,229,(.st xY91))],[]⟩ (.one (.ext 1) ⟨[1,27,28,29],[(8, .ref 8 [] 0),(7, .cel 25 [] 0),(9, .clo 147 0 [(false,8,[],0),(true,25,[],0)])],[],[(8,50,(.rw 78 (.st xY42))),(25,229,(.st xY91))],[]⟩))) (.seq (.seq .no (.seq (.seq (.join (.one .nrm ⟨[1,27,28,29],[(8, .ref 8 [] 0),(7, .cel 25 [] 0),(9, .clo 147 0 [(false,8,[],0),(true,25,[],0)]),(11, .ref 11 [] 0)],[],[(8,50,(.rw 78 (.st xY42))),(25,229,(.st xY91)),(11,78,(.st xY42))],[]⟩) .no) .no) .no)) (.seq (.join (.one .nrm ⟨[1,27,28,29],[(8, .ref 8 [] 0),(7, .cel 25 [] 0),(9, .clo 147 0 [(false,8,[],0),(true,25,[],0)])],[],[(8,50,(.rw 78 (.st xY42))),(25,229,(.st xY91))],[]⟩) (.seq .no (.seq (.join (.one .nrm ⟨[1,27,28,29],[(8, .ref 8 [] 0),(7, .cel 25 [] 0),(9, .clo 147 0 [(false,8,[],0),(true,25,[],0)]),(11, .ref 11 [] 0)],[(68, .bool)],[(8,50,(.rw 78 (.st xY42))),(25,229,(.st xY91)),(11,78,(.st xY42))],[]⟩) .no) .no))) .no))) .no)))) .no))))) (.seq .no (.seq (.join (.one .nrm ⟨[],[(7, .cel 25 [] 0)],[],[(25,229,(.st xY91))],[]⟩) .no) .no))))))))))
noncomputable def table_Fill (a0:List xT25) (a1:Int):Option ((List (List xT25))×(Int)):=
 (bif (!(decide (a1<(1:Int)))) then some (decide ((200:Int)<a1))
  else some true).bind fun r1=>
 bif r1 then some (([]:List (List xT25)),(1:Int))
 else ((Go.Fn.table_check a0)).bind fun r2=>
 bif (decide ((r2:Int)≠(0:Int))) then some (([]:List (List xT25)),r2)
 else (Lf.loopU (σ:=(Int)×((List xT25)×((Int)×xT81))) (κ:=((Int)×xT81)×(List xT25)) (fun z3=>
   bif (decide (z3.1<(((List.length a0):Nat):Int))) then (((Lf.idx a0 z3.1)).bind fun r4=>
    ((Go.Fn.table_kind r4)).bind fun r5=>
    (bif (decide ((r5:Int)=(3:Int))) then (bif (decide (a1<r4.2.1)) then some (z3.2.1,(z3.2.2,(((63:UInt8)::([]:List (UInt8))),((1:Int),r4.2.2))))
      else some (z3.2.1,(z3.2.2,r4))).bind fun r6=>
     ((Lf.app (48:Nat) r6.1 (r6.2.2::([]:List xT25)))).bind fun r7=>
     some (.inr (.inr (r7,r6.2.1)))
     else bif (decide ((r5:Int)=(0:Int))) then (((Go.Fn.table_Fill_1 z3.2.1 z3.2.2)).bind fun r8=>
      (bif (decide ((0:Int)<(((List.length r8.2.2.2.1):Nat):Int))) then some ((decide (((((List.length r8.2.2.2.2.2.1):Nat):Int):Int)=(0:Int))),(r8.1,(r8.2,r4)))
       else some (false,(r8.1,(r8.2,r4)))).bind fun r9=>
      bif r9.1 then some (r9.2.1,(r9.2.2.1.1,(r9.2.2.1.2.1,(r9.2.2.1.2.2.1,(r9.2.2.1.2.2.2.1,(((r9.2.2.2.1,((1:Int),r9.2.2.2.2.2))::([]:List xT25)),r9.2.2.1.2.2.2.2.2))))))
      else some (r9.2.1,r9.2.2.1)).bind fun r10=>
     some (.inr (.inl r10))
     else bif (decide ((r5:Int)=(1:Int))) then some (.inl (z3.2.1,(z3.2.2,r4)))
     else bif (decide ((r5:Int)=(2:Int))) then some (.inl (z3.2.1,(z3.2.2,r4)))
     else some (.inr (.inl z3.2)):Option (((List xT25)×(((Int)×xT81)×xT25))⊕(((List xT25)×((Int)×xT81))⊕((List xT25)×((Int)×xT81))))).bind fun r11=>
    Lf.onSum r11 (fun a12=>
    ((Go.Fn.table_Fill_1 a12.1 a12.2.1)).bind fun r13=>
    ((Go.Fn.table_filler__leap r13.2 a12.2.2)).bind fun r14=>
    some (r13.1,r14)) (fun b15=>
    Lf.onSum b15 (fun a16=>
    some a16) (fun b17=>
    some b17)):Option ((List xT25)×((Int)×xT81))).bind fun r18=>
   some (.inl ((Go.IntKind.wrap .i64 (z3.1+(1:Int))),r18))
   else some (.inr (z3.2.2,z3.2.1))) ((0:Int),(([]:List xT25),(a1,(([]:List (List xT25)),(([]:List xT25),((0:Int),(([]:List xT25),()))))))):Option (((Int)×xT81)×(List xT25))).bind fun r19=>
 ((Go.Fn.table_Fill_1 r19.2 r19.1)).bind fun r20=>
 (bif (decide ((0:Int)<(((List.length r20.2.2.2.1):Nat):Int))) then ((Go.Fn.table_filler__end r20.2)).bind fun r21=>
  some r21
  else some r20.2).bind fun r22=>
 some (r22.2.1,(0:Int))
theorem table_Fill_eq (a0:List xT25) (a1:Int):Lf.fnE table_FillCtx table_FillCode table_FillAnn [.val (.sl (.st xY42)), .val (.int .i64)] [xY49,(.int .i64)] [.tmp 4, .tmp 5] (a0,a1)=table_Fill a0 a1:=by kernel_rfl
noncomputable def table_FillEnt:Nat×Lf.Entry:=(119,⟨[.val (.sl (.st xY42)), .val (.int .i64)],[xY49,(.int .i64)],fun z=>table_Fill z.1 z.2⟩)
theorem table_Fill_ok:Lf.EntryOk Go.Proofs.Tryz.prog GG 119 table_FillEnt.2:=
 Lf.fn_ok (c:=table_FillCtx) (code:=table_FillCode) (an:=table_FillAnn) (slots:=[.tmp 4, .tmp 5]) (fn:=Go.Proofs.Tryz.f119) (by kernel_rfl) ⟨Tys_ok,Lf.FnsOk.look (.con table_check_ok (.con table_Fill_1_ok (.con table_kind_ok (.con table_filler__leap_ok (.con table_filler__end_ok .nil))))),Lf.IpsOk.look .nil,TysEq_ok,TysIm_ok,Lf.IvsOk.look .nil,Lf.FxsOk.look .nil⟩ (by kernel_rfl) (by kernel_rfl) (by kernel_rfl) (by kernel_rfl) (by kernel_rfl) (Nat.le_of_ble_eq_true rfl) (by simp [Lf.Ty.top]) (by simp [Lf.Ty.top]) fun z r h=>(table_Fill_eq z.1 z.2).trans h
noncomputable def vm_padCtx:Lf.Ctx:=⟨19,Tys,[vm_plainEnt,table_WideEnt],[0,4,13,18],[],[(0,(.rw 78 (.st xY42))),(4,(.rw 78 (.st xY42))),(13,(.rw 78 (.st xY42))),(18,(.rw 78 (.st xY42)))],[],TysEq,[],some 4611686018427387904,TysIm,[]⟩
noncomputable def vm_padCode:Go.Code:=(Go.Proofs.Tryz.f121.body).getD .skip
def vm_padAnn:Lf.Ann:=(.seq .no (.seq (.seq .no (.loop ⟨[1],[],[(5,(.int .i64)),(0,(.rw 78 (.st xY42)))],[],[]⟩ (.one (.ext 0) ⟨[],[],[(0,(.rw 78 (.st xY42)))],[],[]⟩) .no)) .no))
noncomputable def vm_pad (a0:List xT25) (a1:Int):Option (List xT25):=
 ((Go.Fn.table_Wide a0)).bind fun r1=>
 (Lf.loopU (σ:=(Int)×(List xT25)) (κ:=List xT25) (fun z2=>
   bif (decide (z2.1<a1)) then (Go.Fn.vm_plain).bind fun r3=>
   ((Lf.app (48:Nat) z2.2 ((((32:UInt8)::([]:List (UInt8))),((1:Int),(r3,((0:Int),()))))::([]:List xT25)))).bind fun r4=>
   some (.inl ((Go.IntKind.wrap .i64 (z2.1+(1:Int))),r4))
   else some (.inr z2.2)) (r1,a0):Option (List xT25)).bind fun r5=>
 some r5
theorem vm_pad_eq (a0:List xT25) (a1:Int):Lf.fnE vm_padCtx vm_padCode vm_padAnn [.val (.rw 78 (.st xY42)), .val (.int .i64)] [(.rw 78 (.st xY42))] [.tmp 4] (a0,a1)=vm_pad a0 a1:=by kernel_rfl
noncomputable def vm_padEnt:Nat×Lf.Entry:=(121,⟨[.val (.rw 78 (.st xY42)), .val (.int .i64)],[(.rw 78 (.st xY42))],fun z=>vm_pad z.1 z.2⟩)
theorem vm_pad_ok:Lf.EntryOk Go.Proofs.Tryz.prog GG 121 vm_padEnt.2:=
 Lf.fn_ok (c:=vm_padCtx) (code:=vm_padCode) (an:=vm_padAnn) (slots:=[.tmp 4]) (fn:=Go.Proofs.Tryz.f121) (by kernel_rfl) ⟨Tys_ok,Lf.FnsOk.look (.con vm_plain_ok (.con table_Wide_ok .nil)),Lf.IpsOk.look .nil,TysEq_ok,TysIm_ok,Lf.IvsOk.look .nil,Lf.FxsOk.look .nil⟩ (by kernel_rfl) (by kernel_rfl) (by kernel_rfl) (by kernel_rfl) (by kernel_rfl) (Nat.le_of_ble_eq_true rfl) (by simp [Lf.Ty.top]) (by simp [Lf.Ty.top]) fun z r h=>(vm_pad_eq z.1 z.2).trans h
noncomputable def vm_Machine__markedCtx:Lf.Ctx:=⟨30,Tys,[vm_plainEnt,vm_padEnt],[2,3,19,29],[],[(2,(.rw 78 (.st xY42))),(3,(.rw 78 (.st xY42))),(19,(.rw 78 (.st xY42))),(29,(.rw 78 (.st xY42)))],[],TysEq,[],some 4611686018427387904,TysIm,[]⟩
noncomputable def vm_Machine__markedCode:Go.Code:=(Go.Proofs.Tryz.f120.body).getD .skip
def vm_Machine__markedAnn:Lf.Ann:=(.seq .no (.seq .no (.seq (.seq .no (.loop ⟨[],[(0, .ref 0 [] 0)],[(3,(.rw 78 (.st xY42))),(15, .it)],[(0,86,(.st xY197))],[]⟩ (.one (.ext 0) ⟨[],[(0, .ref 0 [] 0)],[(3,(.rw 78 (.st xY42)))],[(0,86,(.st xY197))],[]⟩) .no)) .no)))
noncomputable def vm_Machine__marked (a0:(Int)×(xT3×xT171)):Option ((List xT25)×((Int)×(xT3×xT171))):=
 ((Go.Fn.vm_pad ([]:List xT25) a0.2.2.2.2.2.2.2.2.2.2.2.2.2.2.2.2.2.2.1)).bind fun r1=>
 (Lf.loopU (σ:=(List xT25)×(((List (UInt8))×(Int))×((Int)×(xT3×xT171)))) (κ:=(List xT25)×((Int)×(xT3×xT171))) (fun z2=>
   bif (decide (z2.2.1.2<(((List.length z2.2.1.1):Nat):Int))) then (Go.Fn.vm_plain).bind fun r3=>
   ((Lf.app (48:Nat) z2.1 (((Lf.encR (Lf.runeAt z2.2.1.1 z2.2.1.2)),((1:Int),(r3,((0:Int),()))))::([]:List xT25)))).bind fun r4=>
   some (.inl (r4,((z2.2.1.1,(z2.2.1.2+(Lf.runeW z2.2.1.1 z2.2.1.2))),z2.2.2)))
   else some (.inr (z2.1,z2.2.2))) (r1,((a0.2.2.2.2.2.2.2.2.2.2.2.2.2.2.2.2.2.1,(0:Int)),a0)):Option ((List xT25)×((Int)×(xT3×xT171)))).bind fun r5=>
 some (Lf.u18 r5 (([]:List (UInt8)),r5.2.2.2.2.2.2.2.2.2.2.2.2.2.2.2.2.2.2.2))
theorem vm_Machine__marked_eq (a0:(Int)×(xT3×xT171)):Lf.fnE vm_Machine__markedCtx vm_Machine__markedCode vm_Machine__markedAnn [.obj 86 (.st xY197) (.st xY197) []] [(.rw 78 (.st xY42))] [.tmp 2] (a0)=vm_Machine__marked a0:=by kernel_rfl
noncomputable def vm_Machine__markedEnt:Nat×Lf.Entry:=(120,⟨[.obj 86 (.st xY197) (.st xY197) []],[(.rw 78 (.st xY42))],fun z=>vm_Machine__marked z⟩)
theorem vm_Machine__marked_ok:Lf.EntryOk Go.Proofs.Tryz.prog GG 120 vm_Machine__markedEnt.2:=
 Lf.fn_ok (c:=vm_Machine__markedCtx) (code:=vm_Machine__markedCode) (an:=vm_Machine__markedAnn) (slots:=[.tmp 2]) (fn:=Go.Proofs.Tryz.f120) (by kernel_rfl) ⟨Tys_ok,Lf.FnsOk.look (.con vm_plain_ok (.con vm_pad_ok .nil)),Lf.IpsOk.look .nil,TysEq_ok,TysIm_ok,Lf.IvsOk.look .nil,Lf.FxsOk.look .nil⟩ (by kernel_rfl) (by kernel_rfl) (by kernel_rfl) (by kernel_rfl) (by kernel_rfl) (Nat.le_of_ble_eq_true rfl) (by simp [Lf.Ty.top]) (by simp [Lf.Ty.top]) fun z r h=>(vm_Machine__marked_eq z).trans h
noncomputable def vm_Machine__settleCtx:Lf.Ctx:=⟨11,Tys,[vm_Machine__tellEnt,vm_Machine__markedEnt],[],[],[],[],TysEq,[],some 4611686018427387904,TysIm,[]⟩
noncomputable def vm_Machine__settleCode:Go.Code:=(Go.Proofs.Tryz.f82.body).getD .skip
def vm_Machine__settleAnn:Lf.Ann:= .no
noncomputable def vm_Machine__settle (a0:(Int)×(xT3×xT171)):Option ((Int)×(xT3×xT171)):=
 bif (decide ((a0.2.2.2.2.2.2.2.2.2.2.2.2.2.2.2.2.2.1:List (UInt8))≠([]:List (UInt8)))) then ((Go.Fn.vm_Machine__marked a0)).bind fun r1=>
 ((Go.Fn.vm_Machine__tell r1.2 r1.1)).bind fun r2=>
 some r2
 else some a0
theorem vm_Machine__settle_eq (a0:(Int)×(xT3×xT171)):Lf.fnE vm_Machine__settleCtx vm_Machine__settleCode vm_Machine__settleAnn [.obj 86 (.st xY197) (.st xY197) []] [] [] (a0)=vm_Machine__settle a0:=by kernel_rfl
noncomputable def vm_Machine__settleEnt:Nat×Lf.Entry:=(82,⟨[.obj 86 (.st xY197) (.st xY197) []],[],fun z=>vm_Machine__settle z⟩)
theorem vm_Machine__settle_ok:Lf.EntryOk Go.Proofs.Tryz.prog GG 82 vm_Machine__settleEnt.2:=
 Lf.fn_ok (c:=vm_Machine__settleCtx) (code:=vm_Machine__settleCode) (an:=vm_Machine__settleAnn) (slots:=[]) (fn:=Go.Proofs.Tryz.f82) (by kernel_rfl) ⟨Tys_ok,Lf.FnsOk.look (.con vm_Machine__tell_ok (.con vm_Machine__marked_ok .nil)),Lf.IpsOk.look .nil,TysEq_ok,TysIm_ok,Lf.IvsOk.look .nil,Lf.FxsOk.look .nil⟩ (by kernel_rfl) (by kernel_rfl) (by kernel_rfl) (by kernel_rfl) (by kernel_rfl) (Nat.le_of_ble_eq_true rfl) (by simp [Lf.Ty.top]) (by simp [Lf.Ty.top]) fun z r h=>(vm_Machine__settle_eq z).trans h
noncomputable def vm_Machine__endCtx:Lf.Ctx:=⟨76,Tys,[vm_Machine__tellEnt,vm_Machine__settleEnt,table_FillEnt,vm_Machine__markedEnt,vm_padEnt],[6,15,66],[],[(6,(.rw 78 (.st xY42))),(15,xY49),(66,(.rw 78 (.st xY42)))],[],TysEq,[],some 4611686018427387904,TysIm,[]⟩
noncomputable def vm_Machine__endCode:Go.Code:=(Go.Proofs.Tryz.f81.body).getD .skip
def vm_Machine__endAnn:Lf.Ann:=(.seq (.seq .no (.cnd (.seq (.soup 10) .no) .no)) (.seq (.soup 17) (.seq .no (.seq (.join (.one .nrm ⟨[2],[(0, .ref 0 [] 0)],[],[(0,86,(.st xY197))],[]⟩) .no) (.seq .no (.loop ⟨[52,53],[(0, .ref 0 [] 0)],[(54,(.int .i64))],[(0,86,(.st xY197))],[]⟩ (.one (.ext 0) ⟨[],[(0, .ref 0 [] 0)],[],[(0,86,(.st xY197))],[]⟩) (.seq .no (.seq .no (.seq (.seq .no (.seq .no (.seq (.join (.one .nrm ⟨[52,53,54,5],[(0, .ref 0 [] 0)],[(6,(.rw 78 (.st xY42)))],[(0,86,(.st xY197))],[]⟩) .no) .no))) .no)))))))))
noncomputable def vm_Machine__end (a0:(Int)×(xT3×xT171)):Option ((Int)×(xT3×xT171)):=
 bif a0.2.2.2.2.2.2.2.2.2.2.2.2.2.2.1 then ((Lf.app (24:Nat) a0.2.2.2.2.2.2.2.2.2.2.2.2.1 (a0.2.2.2.2.2.2.2.2.2.2.2.1::([]:List (List xT25))))).bind fun r1=>
 some (Lf.u11 a0 (([]:List xT25),(r1,a0.2.2.2.2.2.2.2.2.2.2.2.2.2)))
 else ((Go.Fn.table_Fill a0.2.2.2.2.2.2.2.2.2.2.2.1 (Go.IntKind.wrap .i64 (a0.2.2.2.2.1 - a0.2.2.2.2.2.2.2.2.2.2.2.2.2.2.2.2.1)))).bind fun r2=>
 (bif (decide (((((List.length r2.1):Nat):Int):Int)=(0:Int))) then ((Go.Fn.vm_Machine__settle (Lf.u11 a0 (([]:List xT25),a0.2.2.2.2.2.2.2.2.2.2.2.2)))).bind fun r3=>
  some r3
  else some (Lf.u11 a0 (([]:List xT25),a0.2.2.2.2.2.2.2.2.2.2.2.2))).bind fun r4=>
 (Lf.loopU (σ:=(Int)×((Int)×(xT3×xT171))) (κ:=(Int)×(xT3×xT171)) (fun z5=>
   bif (decide (z5.1<(((List.length r2.1):Nat):Int))) then ((Lf.idx r2.1 z5.1)).bind fun r6=>
   (bif (decide ((z5.2.2.2.2.2.2.2.2.2.2.2.2.2.2.2.2.2.2.1:List (UInt8))≠([]:List (UInt8)))) then ((Go.Fn.vm_Machine__marked z5.2)).bind fun r7=>
    some r7
    else some (([]:List xT25),z5.2)).bind fun r8=>
   ((Go.Fn.vm_pad r8.1 r8.2.2.2.2.2.2.2.2.2.2.2.2.2.2.2.2.2.1)).bind fun r9=>
   ((Lf.app (48:Nat) r9 r6)).bind fun r10=>
   ((Go.Fn.vm_Machine__tell r8.2 r10)).bind fun r11=>
   some (.inl ((Go.IntKind.wrap .i64 (z5.1+(1:Int))),r11))
   else some (.inr z5.2)) ((0:Int),r4):Option ((Int)×(xT3×xT171))).bind fun r12=>
 some r12
theorem vm_Machine__end_eq (a0:(Int)×(xT3×xT171)):Lf.fnE vm_Machine__endCtx vm_Machine__endCode vm_Machine__endAnn [.obj 86 (.st xY197) (.st xY197) []] [] [] (a0)=vm_Machine__end a0:=by kernel_rfl
noncomputable def vm_Machine__endEnt:Nat×Lf.Entry:=(81,⟨[.obj 86 (.st xY197) (.st xY197) []],[],fun z=>vm_Machine__end z⟩)
theorem vm_Machine__end_ok:Lf.EntryOk Go.Proofs.Tryz.prog GG 81 vm_Machine__endEnt.2:=
 Lf.fn_ok (c:=vm_Machine__endCtx) (code:=vm_Machine__endCode) (an:=vm_Machine__endAnn) (slots:=[]) (fn:=Go.Proofs.Tryz.f81) (by kernel_rfl) ⟨Tys_ok,Lf.FnsOk.look (.con vm_Machine__tell_ok (.con vm_Machine__settle_ok (.con table_Fill_ok (.con vm_Machine__marked_ok (.con vm_pad_ok .nil))))),Lf.IpsOk.look .nil,TysEq_ok,TysIm_ok,Lf.IvsOk.look .nil,Lf.FxsOk.look .nil⟩ (by kernel_rfl) (by kernel_rfl) (by kernel_rfl) (by kernel_rfl) (by kernel_rfl) (Nat.le_of_ble_eq_true rfl) (by simp [Lf.Ty.top]) (by simp [Lf.Ty.top]) fun z r h=>(vm_Machine__end_eq z).trans h
noncomputable def vm_Machine__markCtx:Lf.Ctx:=⟨93,Tys,[strconv_ItoaEnt],[],[],[],[],TysEq,[],some 4611686018427387904,TysIm,[]⟩
noncomputable def vm_Machine__markCode:Go.Code:=(Go.Proofs.Tryz.f83.body).getD .skip
def vm_Machine__markAnn:Lf.Ann:=(.seq (.draw 12) (.seq (.draw 10) (.seq .no (.seq .no (.seq .no (.seq (.draw 17) (.seq .no (.draw 18))))))))
noncomputable def vm_Machine__mark (a0:(Int)×(xT3×xT171)):Option ((Int)×(xT3×xT171)):=
 ((Lf.chk (List.length a0.2.2.2.2.2.2.2.2.2.2.1) (Go.IntKind.wrap .i64 ((((List.length a0.2.2.2.2.2.2.2.2.2.2.1):Nat):Int) - (1:Int))))).bind fun r1=>
 ((Lf.chk (32:Nat) (Go.IntKind.wrap .i64 (a0.2.2.2.2.2.2.2.2.2.1 - (1:Int))))).bind fun r2=>
 ((Lf.nth (Lf.arL xY38 (32:Nat) a0.2.2.2.2.2.2.2.2.1) r2)).bind fun r3=>
 ((Lf.nth (Lf.arL xY38 (32:Nat) a0.2.2.2.2.2.2.2.2.1) r2)).bind fun r4=>
 ((Lf.nth a0.2.2.2.2.2.2.2.2.2.2.1 r1)).bind fun r5=>
 bif (decide ((r5.2.1:Int)=(1:Int))) then ((Lf.nth (Lf.arL xY38 (32:Nat) (Lf.arS xY38 (32:Nat) a0.2.2.2.2.2.2.2.2.1 r2 (r4.1,((Go.IntKind.wrap .i64 (r3.2.1+(1:Int))),r4.2.2)))) r2)).bind fun r6=>
 ((Go.Fn.strconv_Itoa r6.2.1)).bind fun r7=>
 ((Lf.cat r7 ((46:UInt8)::([]:List (UInt8))))).bind fun r8=>
 ((Lf.nth a0.2.2.2.2.2.2.2.2.2.2.1 r1)).bind fun r9=>
 ((Lf.sub r8 (Go.IntKind.wrap .i64 ((((List.length r8):Nat):Int) - (Min.min (((List.length r8):Nat):Int) (Min.min (Go.IntKind.wrap .i64 ((Go.IntKind.wrap .i64 (r9.1+(((List.length r8):Nat):Int)))+(1:Int))) (Go.IntKind.wrap .i64 (a0.2.2.2.2.1 - (4:Int))))))) (((List.length r8):Nat):Int))).bind fun r10=>
 ((Lf.nth a0.2.2.2.2.2.2.2.2.2.2.1 r1)).bind fun r11=>
 some (Lf.u8 a0 ((Lf.arS xY38 (32:Nat) a0.2.2.2.2.2.2.2.2.1 r2 (r4.1,((Go.IntKind.wrap .i64 (r3.2.1+(1:Int))),r4.2.2))),(a0.2.2.2.2.2.2.2.2.2.1,(a0.2.2.2.2.2.2.2.2.2.2.1,(a0.2.2.2.2.2.2.2.2.2.2.2.1,(a0.2.2.2.2.2.2.2.2.2.2.2.2.1,(a0.2.2.2.2.2.2.2.2.2.2.2.2.2.1,(a0.2.2.2.2.2.2.2.2.2.2.2.2.2.2.1,(a0.2.2.2.2.2.2.2.2.2.2.2.2.2.2.2.1,((Min.min (Go.IntKind.wrap .i64 ((Go.IntKind.wrap .i64 (r9.1+(((List.length r8):Nat):Int)))+(1:Int))) (Go.IntKind.wrap .i64 (a0.2.2.2.2.1 - (4:Int)))),(r10,((Min.min r11.1 (Go.IntKind.wrap .i64 ((Min.min (Go.IntKind.wrap .i64 ((Go.IntKind.wrap .i64 (r9.1+(((List.length r8):Nat):Int)))+(1:Int))) (Go.IntKind.wrap .i64 (a0.2.2.2.2.1 - (4:Int)))) - (((List.length r10):Nat):Int)))),a0.2.2.2.2.2.2.2.2.2.2.2.2.2.2.2.2.2.2.2))))))))))))
 else ((Lf.nth a0.2.2.2.2.2.2.2.2.2.2.1 r1)).bind fun r12=>
 ((Lf.sub ((42:UInt8)::([]:List (UInt8))) (Go.IntKind.wrap .i64 ((((List.length ((42:UInt8)::([]:List (UInt8)))):Nat):Int) - (Min.min (((List.length ((42:UInt8)::([]:List (UInt8)))):Nat):Int) (Min.min (Go.IntKind.wrap .i64 ((Go.IntKind.wrap .i64 (r12.1+(((List.length ((42:UInt8)::([]:List (UInt8)))):Nat):Int)))+(1:Int))) (Go.IntKind.wrap .i64 (a0.2.2.2.2.1 - (4:Int))))))) (((List.length ((42:UInt8)::([]:List (UInt8)))):Nat):Int))).bind fun r13=>
 ((Lf.nth a0.2.2.2.2.2.2.2.2.2.2.1 r1)).bind fun r14=>
 some (Lf.u8 a0 ((Lf.arS xY38 (32:Nat) a0.2.2.2.2.2.2.2.2.1 r2 (r4.1,((Go.IntKind.wrap .i64 (r3.2.1+(1:Int))),r4.2.2))),(a0.2.2.2.2.2.2.2.2.2.1,(a0.2.2.2.2.2.2.2.2.2.2.1,(a0.2.2.2.2.2.2.2.2.2.2.2.1,(a0.2.2.2.2.2.2.2.2.2.2.2.2.1,(a0.2.2.2.2.2.2.2.2.2.2.2.2.2.1,(a0.2.2.2.2.2.2.2.2.2.2.2.2.2.2.1,(a0.2.2.2.2.2.2.2.2.2.2.2.2.2.2.2.1,((Min.min (Go.IntKind.wrap .i64 ((Go.IntKind.wrap .i64 (r12.1+(((List.length ((42:UInt8)::([]:List (UInt8)))):Nat):Int)))+(1:Int))) (Go.IntKind.wrap .i64 (a0.2.2.2.2.1 - (4:Int)))),(r13,((Min.min r14.1 (Go.IntKind.wrap .i64 ((Min.min (Go.IntKind.wrap .i64 ((Go.IntKind.wrap .i64 (r12.1+(((List.length ((42:UInt8)::([]:List (UInt8)))):Nat):Int)))+(1:Int))) (Go.IntKind.wrap .i64 (a0.2.2.2.2.1 - (4:Int)))) - (((List.length r13):Nat):Int)))),a0.2.2.2.2.2.2.2.2.2.2.2.2.2.2.2.2.2.2.2))))))))))))
theorem vm_Machine__mark_eq (a0:(Int)×(xT3×xT171)):Lf.fnE vm_Machine__markCtx vm_Machine__markCode vm_Machine__markAnn [.obj 86 (.st xY197) (.st xY197) []] [] [] (a0)=vm_Machine__mark a0:=by kernel_rfl
noncomputable def vm_Machine__markEnt:Nat×Lf.Entry:=(83,⟨[.obj 86 (.st xY197) (.st xY197) []],[],fun z=>vm_Machine__mark z⟩)
theorem vm_Machine__mark_ok:Lf.EntryOk Go.Proofs.Tryz.prog GG 83 vm_Machine__markEnt.2:=
 Lf.fn_ok (c:=vm_Machine__markCtx) (code:=vm_Machine__markCode) (an:=vm_Machine__markAnn) (slots:=[]) (fn:=Go.Proofs.Tryz.f83) (by kernel_rfl) ⟨Tys_ok,Lf.FnsOk.look (.con strconv_Itoa_ok .nil),Lf.IpsOk.look .nil,TysEq_ok,TysIm_ok,Lf.IvsOk.look .nil,Lf.FxsOk.look .nil⟩ (by kernel_rfl) (by kernel_rfl) (by kernel_rfl) (by kernel_rfl) (by kernel_rfl) (Nat.le_of_ble_eq_true rfl) (by simp [Lf.Ty.top]) (by simp [Lf.Ty.top]) fun z r h=>(vm_Machine__mark_eq z).trans h
noncomputable def table_sharedCtx:Lf.Ctx:=⟨106,Tys,[],[],[],[(18,(.mr 3 (.int .i64)))],[],TysEq,[],some 4611686018427387904,TysIm,[]⟩
noncomputable def table_sharedCode:Go.Code:=(Go.Proofs.Tryz.f122.body).getD .skip
def table_sharedAnn:Lf.Ann:=(.seq .no (.seq .no (.seq (.seq .no (.cnd (.seq .no (.seq .no (.seq (.seq .no (.loop ⟨[3,10,28],[],[(29,(.int .i64)),(11,(.int .i64)),(9,(.mr 3 (.int .i64)))],[],[]⟩ (.one (.ext 0) ⟨[],[],[(9,(.mr 3 (.int .i64)))],[],[]⟩) (.seq .no (.seq .no (.seq (.join (.one .nrm ⟨[3,10,28,29],[],[(11,(.int .i64)),(9,(.mr 3 (.int .i64)))],[],[]⟩) (.seq .no (.seq .no (.seq .no (.seq (.join (.one .nrm ⟨[3,10,28,29,11],[],[(9,(.mr 3 (.int .i64)))],[],[]⟩) .no) .no))))) .no))))) .no))) .no)) (.seq .no (.seq (.seq .no (.loop ⟨[1,59],[],[(60,(.int .i64)),(9,(.mr 3 (.int .i64))),(13,(.int .i64))],[],[]⟩ (.one (.ext 2) ⟨[1],[],[(9,(.mr 3 (.int .i64))),(13,(.int .i64))],[],[]⟩) .no)) (.seq (.loop ⟨[1],[],[(9,(.mr 3 (.int .i64))),(13,(.int .i64))],[],[]⟩ (.one (.ext 4) ⟨[],[],[(9,(.mr 3 (.int .i64)))],[],[]⟩) (.seq .no (.seq (.seq .no (.seq (.seq .no (.loop ⟨[1,13,84],[],[(85,(.int .i64)),(15,(.int .i64)),(9,(.mr 3 (.int .i64)))],[],[]⟩ (.one (.ext 6) ⟨[1,13],[],[(9,(.mr 3 (.int .i64))),(15,(.int .i64))],[],[]⟩) (.seq .no (.seq .no (.seq (.join (.one .nrm ⟨[1,13,84,85],[],[(15,(.int .i64)),(9,(.mr 3 (.int .i64)))],[],[]⟩) (.seq .no (.seq (.draw 9) .no))) .no))))) .no)) .no))) .no))))))
noncomputable def table_shared (a0:List (Int)) (a1:Int) (a2:Int) (a3:Int):Option (List (Int)):=
 ((Lf.app (8:Nat) ([]:List (Int)) a0)).bind fun r1=>
 bif (decide ((Go.IntKind.wrap .i64 (a2+a3))≤a1)) then (Lf.loopU (σ:=(Int)×((Int)×(List (Int)))) (κ:=List (Int)) (fun z2=>
   bif (decide (z2.1<(((List.length r1):Nat):Int))) then (((Lf.chk (List.length z2.2.2) z2.1)).bind fun r3=>
    ((Lf.nth z2.2.2 r3)).bind fun r4=>
    bif (decide ((r4:Int)≠(0:Int))) then some z2.2
    else ((Lf.nz a3 (Go.IntKind.wrap .i64 (Int.tdiv (Go.IntKind.wrap .i64 (a1 - a2)) a3)))).bind fun r5=>
    ((Lf.chk (List.length z2.2.2) z2.1)).bind fun r6=>
    ((Lf.nth z2.2.2 r6)).bind fun r7=>
    (((Lf.nz a3 (Int.tmod (Go.IntKind.wrap .i64 (a1 - a2)) a3))).bind fun r8=>
     bif (decide (z2.2.1<r8)) then ((Lf.chk (List.length (List.set z2.2.2 r6 r5)) z2.1)).bind fun r9=>
     ((Lf.nth (List.set z2.2.2 r6 r5) r9)).bind fun r10=>
     ((Lf.chk (List.length (List.set z2.2.2 r6 r5)) z2.1)).bind fun r11=>
     ((Lf.nth (List.set z2.2.2 r6 r5) r11)).bind fun r12=>
     some (List.set (List.set z2.2.2 r6 r5) r11 (Go.IntKind.wrap .i64 (r10+(1:Int))))
     else some (List.set z2.2.2 r6 r5)).bind fun r13=>
    some ((Go.IntKind.wrap .i64 (z2.2.1+(1:Int))),r13)).bind fun r14=>
   some (.inl ((Go.IntKind.wrap .i64 (z2.1+(1:Int))),r14))
   else some (.inr z2.2.2)) ((0:Int),((0:Int),r1)):Option (List (Int))).bind fun r15=>
 some r15
 else (Lf.loopU (σ:=(Int)×((List (Int))×(Int))) (κ:=(List (Int))×(Int)) (fun z16=>
   bif (decide (z16.1<(((List.length r1):Nat):Int))) then ((Lf.chk (List.length z16.2.1) z16.1)).bind fun r17=>
   ((Lf.nth z16.2.1 r17)).bind fun r18=>
   ((Lf.chk (List.length z16.2.1) z16.1)).bind fun r19=>
   ((Lf.nth z16.2.1 r19)).bind fun r20=>
   ((Lf.chk (List.length (List.set z16.2.1 r19 (Max.max r18 (1:Int)))) z16.1)).bind fun r21=>
   ((Lf.nth (List.set z16.2.1 r19 (Max.max r18 (1:Int))) r21)).bind fun r22=>
   some (.inl ((Go.IntKind.wrap .i64 (z16.1+(1:Int))),((List.set z16.2.1 r19 (Max.max r18 (1:Int))),(Go.IntKind.wrap .i64 (z16.2.2+r22)))))
   else some (.inr z16.2)) ((0:Int),(r1,(0:Int))):Option ((List (Int))×(Int))).bind fun r23=>
 (Lf.loopU (σ:=(List (Int))×(Int)) (κ:=List (Int)) (fun z24=>
   bif (decide (a1<z24.2)) then (Lf.loopU (σ:=(Int)×((Int)×(List (Int)))) (κ:=(List (Int))×(Int)) (fun z25=>
     bif (decide (z25.1<(((List.length z24.1):Nat):Int))) then (((Lf.chk (List.length z25.2.2) z25.1)).bind fun r26=>
      ((Lf.nth z25.2.2 r26)).bind fun r27=>
      ((Lf.chk (List.length z25.2.2) z25.2.1)).bind fun r28=>
      ((Lf.nth z25.2.2 r28)).bind fun r29=>
      bif (decide (r29≤r27)) then some (z25.1,z25.2.2)
      else some z25.2).bind fun r30=>
     some (.inl ((Go.IntKind.wrap .i64 (z25.1+(1:Int))),r30))
     else some (.inr (z25.2.2,z25.2.1))) ((0:Int),((0:Int),z24.1)):Option ((List (Int))×(Int))).bind fun r31=>
   ((Lf.chk (List.length r31.1) r31.2)).bind fun r32=>
   ((Lf.nth r31.1 r32)).bind fun r33=>
   ((Lf.chk (List.length r31.1) r31.2)).bind fun r34=>
   ((Lf.nth r31.1 r34)).bind fun r35=>
   some (.inl ((List.set r31.1 r34 (Go.IntKind.wrap .i64 (r33 - (1:Int)))),(Go.IntKind.wrap .i64 (z24.2 - (1:Int)))))
   else some (.inr z24.1)) r23:Option (List (Int))).bind fun r36=>
 some r36
theorem table_shared_eq (a0:List (Int)) (a1:Int) (a2:Int) (a3:Int):Lf.fnE table_sharedCtx table_sharedCode table_sharedAnn [.val (.sl (.int .i64)), .val (.int .i64), .val (.int .i64), .val (.int .i64)] [(.mr 3 (.int .i64))] [.tmp 8] (a0,a1,a2,a3)=table_shared a0 a1 a2 a3:=by kernel_rfl
noncomputable def table_sharedEnt:Nat×Lf.Entry:=(122,⟨[.val (.sl (.int .i64)), .val (.int .i64), .val (.int .i64), .val (.int .i64)],[(.mr 3 (.int .i64))],fun z=>table_shared z.1 z.2.1 z.2.2.1 z.2.2.2⟩)
theorem table_shared_ok:Lf.EntryOk Go.Proofs.Tryz.prog GG 122 table_sharedEnt.2:=
 Lf.fn_ok (c:=table_sharedCtx) (code:=table_sharedCode) (an:=table_sharedAnn) (slots:=[.tmp 8]) (fn:=Go.Proofs.Tryz.f122) (by kernel_rfl) ⟨Tys_ok,Lf.FnsOk.look .nil,Lf.IpsOk.look .nil,TysEq_ok,TysIm_ok,Lf.IvsOk.look .nil,Lf.FxsOk.look .nil⟩ (by kernel_rfl) (by kernel_rfl) (by kernel_rfl) (by kernel_rfl) (by kernel_rfl) (Nat.le_of_ble_eq_true rfl) (by simp [Lf.Ty.top]) (by simp [Lf.Ty.top]) fun z r h=>(table_shared_eq z.1 z.2.1 z.2.2.1 z.2.2.2).trans h
noncomputable def table_ColumnsCtx:Lf.Ctx:=⟨90,Tys,[table_sharedEnt],[4,14,77,89],[],[(4,(.rw 201 (.st xY1))),(14,(.rw 201 (.st xY1))),(77,(.rw 201 (.st xY1))),(89,(.rw 201 (.st xY1)))],[],TysEq,[],some 4611686018427387904,TysIm,[]⟩
noncomputable def table_ColumnsCode:Go.Code:=(Go.Proofs.Tryz.f84.body).getD .skip
def table_ColumnsAnn:Lf.Ann:=(.seq .no (.seq .no (.seq (.seq (.join (.one .nrm ⟨[0,6,1],[],[(33, .bool)],[],[]⟩) .no) .no) (.seq .no (.seq (.seq .no (.loop ⟨[34,0,6,1,35],[],[(36,(.int .i64)),(8,(.int .i64)),(7,(.int .i64))],[],[]⟩ (.more (.ext 0) ⟨[0,6,1],[],[(8,(.int .i64)),(7,(.int .i64))],[],[]⟩ (.one .ret ⟨[],[],[(4,(.rw 201 (.st xY1))),(5,(.int .i64))],[],[]⟩)) (.seq .no (.seq .no (.seq (.join (.more .ret ⟨[],[],[(4,(.rw 201 (.st xY1))),(5,(.int .i64))],[],[]⟩ (.one .nrm ⟨[34,0,6,1,35,36],[],[(8,(.int .i64)),(7,(.int .i64))],[],[]⟩)) (.seq .no (.seq (.seq (.join (.one .nrm ⟨[34,0,6,1,35,36,8,10,7],[],[(45, .bool)],[],[]⟩) .no) .no) .no))) .no))))) (.seq .no (.seq (.join (.one .nrm ⟨[8,7,0,6,1],[],[(11,(.int .i64))],[],[]⟩) .no) (.seq .no (.seq .no (.seq .no (.seq .no (.seq (.seq .no (.loop ⟨[11,71,72],[],[(73,(.int .i64)),(15,(.int .i64)),(14,(.rw 201 (.st xY1)))],[],[]⟩ (.one (.ext 2) ⟨[],[],[(14,(.rw 201 (.st xY1)))],[],[]⟩) .no)) .no))))))))))))
noncomputable def table_Columns (a0:List (Int)) (a1:Int):Option ((List ((Int)×((Int)×(Unit))))×(Int)):=
 (bif (!(decide (a1<(10:Int)))) then bif (!(decide ((200:Int)<a1))) then bif (!(decide ((((List.length a0):Nat):Int)<(1:Int)))) then some (decide ((8:Int)<(((List.length a0):Nat):Int)))
  else some true
  else some true
  else some true).bind fun r1=>
 bif r1 then some (([]:List ((Int)×((Int)×(Unit)))),(1:Int))
 else (Lf.loopU (σ:=(Int)×((Int)×(Int))) (κ:=((Int)×(Int))⊕((List ((Int)×((Int)×(Unit))))×(Int))) (fun z2=>
   bif (decide (z2.1<(((List.length a0):Nat):Int))) then (((Lf.idx a0 z2.1)).bind fun r3=>
    (bif (!(decide (r3<(0:Int)))) then some (decide ((200:Int)<r3))
     else some true).bind fun r4=>
    bif r4 then some (.inl (([]:List ((Int)×((Int)×(Unit)))),(1:Int)))
    else bif (decide ((r3:Int)=(0:Int))) then some (.inr ((Go.IntKind.wrap .i64 (z2.2.1+(1:Int))),(Go.IntKind.wrap .i64 (z2.2.2+r3))))
    else some (.inr (z2.2.1,(Go.IntKind.wrap .i64 (z2.2.2+r3)))):Option (((List ((Int)×((Int)×(Unit))))×(Int))⊕((Int)×(Int)))).bind fun r5=>
   Lf.onSum r5 (fun a6=>
   some (.inr (.inr a6))) (fun b7=>
   some (.inl ((Go.IntKind.wrap .i64 (z2.1+(1:Int))),b7)))
   else some (.inr (.inl z2.2))) ((0:Int),((0:Int),(0:Int))):Option (((Int)×(Int))⊕((List ((Int)×((Int)×(Unit))))×(Int)))).bind fun r8=>
 Lf.onSum r8 (fun a9=>
 (bif (decide ((Go.IntKind.wrap .i64 (a1 - (Go.IntKind.wrap .i64 ((((List.length a0):Nat):Int) - (1:Int)))))<(((List.length a0):Nat):Int))) then some (0:Int)
  else some (1:Int)).bind fun r10=>
 ((Go.Fn.table_shared a0 (Go.IntKind.wrap .i64 (a1 - (Go.IntKind.wrap .i64 (r10*(Go.IntKind.wrap .i64 ((((List.length a0):Nat):Int) - (1:Int))))))) a9.2 a9.1)).bind fun r11=>
 (Lf.loopU (σ:=(Int)×((Int)×(List ((Int)×((Int)×(Unit)))))) (κ:=List ((Int)×((Int)×(Unit)))) (fun z12=>
   bif (decide (z12.1<(((List.length r11):Nat):Int))) then ((Lf.idx r11 z12.1)).bind fun r13=>
   ((Lf.app (16:Nat) z12.2.2 ((z12.2.1,(r13,()))::([]:List ((Int)×((Int)×(Unit))))))).bind fun r14=>
   some (.inl ((Go.IntKind.wrap .i64 (z12.1+(1:Int))),((Go.IntKind.wrap .i64 (z12.2.1+(Go.IntKind.wrap .i64 (r13+r10)))),r14)))
   else some (.inr z12.2.2)) ((0:Int),((0:Int),([]:List ((Int)×((Int)×(Unit)))))):Option (List ((Int)×((Int)×(Unit))))).bind fun r15=>
 some (r15,(0:Int))) (fun b16=>
 some b16)
theorem table_Columns_eq (a0:List (Int)) (a1:Int):Lf.fnE table_ColumnsCtx table_ColumnsCode table_ColumnsAnn [.val (.sl (.int .i64)), .val (.int .i64)] [(.rw 201 (.st xY1)),(.int .i64)] [.tmp 4, .tmp 5] (a0,a1)=table_Columns a0 a1:=by kernel_rfl
noncomputable def table_ColumnsEnt:Nat×Lf.Entry:=(84,⟨[.val (.sl (.int .i64)), .val (.int .i64)],[(.rw 201 (.st xY1)),(.int .i64)],fun z=>table_Columns z.1 z.2⟩)
theorem table_Columns_ok:Lf.EntryOk Go.Proofs.Tryz.prog GG 84 table_ColumnsEnt.2:=
 Lf.fn_ok (c:=table_ColumnsCtx) (code:=table_ColumnsCode) (an:=table_ColumnsAnn) (slots:=[.tmp 4, .tmp 5]) (fn:=Go.Proofs.Tryz.f84) (by kernel_rfl) ⟨Tys_ok,Lf.FnsOk.look (.con table_shared_ok .nil),Lf.IpsOk.look .nil,TysEq_ok,TysIm_ok,Lf.IvsOk.look .nil,Lf.FxsOk.look .nil⟩ (by kernel_rfl) (by kernel_rfl) (by kernel_rfl) (by kernel_rfl) (by kernel_rfl) (Nat.le_of_ble_eq_true rfl) (by simp [Lf.Ty.top]) (by simp [Lf.Ty.top]) fun z r h=>(table_Columns_eq z.1 z.2).trans h
noncomputable def table_columnsCtx:Lf.Ctx:=⟨40,Tys,[],[],[],[],[],TysEq,[],some 4611686018427387904,TysIm,[]⟩
noncomputable def table_columnsCode:Go.Code:=(Go.Proofs.Tryz.f153.body).getD .skip
def table_columnsAnn:Lf.Ann:=(.seq .no (.seq .no (.seq (.seq .no (.loop ⟨[6,7],[],[(8,(.int .i64)),(3,(.int .i64))],[],[]⟩ (.more (.ext 0) ⟨[],[],[],[],[]⟩ (.one .ret ⟨[],[],[(2,(.int .i64))],[],[]⟩)) (.seq .no (.seq .no (.seq (.seq .no (.seq (.seq (.join (.one .nrm ⟨[6,7,8],[(5, .ref 5 [] 0)],[(33, .bool)],[(5,201,(.st xY1))],[]⟩) .no) .no) .no)) .no))))) .no)))
noncomputable def table_columns (a0:List ((Int)×((Int)×(Unit)))):Option (Int):=
 (Lf.loopU (σ:=(Int)×(Int)) (κ:=(Unit)⊕(Int)) (fun z1=>
   bif (decide (z1.1<(((List.length a0):Nat):Int))) then ((Lf.idx a0 z1.1)).bind fun r2=>
   (bif (!(decide (r2.1<z1.2))) then bif (!(decide (r2.2.1<(1:Int)))) then bif (!(decide ((200:Int)<r2.2.1))) then some ((decide ((Go.IntKind.wrap .i64 ((200:Int) - r2.2.1))<r2.1)),r2)
    else some (true,r2)
    else some (true,r2)
    else some (true,r2)).bind fun r3=>
   bif r3.1 then some (.inr (.inr (1:Int)))
   else some (.inl ((Go.IntKind.wrap .i64 (z1.1+(1:Int))),(Go.IntKind.wrap .i64 (r3.2.1+r3.2.2.1))))
   else some (.inr (.inl ()))) ((0:Int),(0:Int)):Option ((Unit)⊕(Int))).bind fun r4=>
 Lf.onSum r4 (fun a5=>
 some (0:Int)) (fun b6=>
 some b6)
theorem table_columns_eq (a0:List ((Int)×((Int)×(Unit)))):Lf.fnE table_columnsCtx table_columnsCode table_columnsAnn [.val (.sl (.st xY1))] [(.int .i64)] [.tmp 2] (a0)=table_columns a0:=by kernel_rfl
noncomputable def table_columnsEnt:Nat×Lf.Entry:=(153,⟨[.val (.sl (.st xY1))],[(.int .i64)],fun z=>table_columns z⟩)
theorem table_columns_ok:Lf.EntryOk Go.Proofs.Tryz.prog GG 153 table_columnsEnt.2:=
 Lf.fn_ok (c:=table_columnsCtx) (code:=table_columnsCode) (an:=table_columnsAnn) (slots:=[.tmp 2]) (fn:=Go.Proofs.Tryz.f153) (by kernel_rfl) ⟨Tys_ok,Lf.FnsOk.look .nil,Lf.IpsOk.look .nil,TysEq_ok,TysIm_ok,Lf.IvsOk.look .nil,Lf.FxsOk.look .nil⟩ (by kernel_rfl) (by kernel_rfl) (by kernel_rfl) (by kernel_rfl) (by kernel_rfl) (Nat.le_of_ble_eq_true rfl) (by simp [Lf.Ty.top]) (by simp [Lf.Ty.top]) fun z r h=>(table_columns_eq z).trans h
noncomputable def table_plainCtx:Lf.Ctx:=⟨3,Tys,[],[],[],[],[],TysEq,[],some 4611686018427387904,TysIm,[]⟩
noncomputable def table_plainCode:Go.Code:=(Go.Proofs.Tryz.f154.body).getD .skip
def table_plainAnn:Lf.Ann:= .no
noncomputable def table_plain  :Option xT25:=
 some (((32:UInt8)::([]:List (UInt8))),((1:Int),(((0:Int),((7:Int),())),((0:Int),()))))
theorem table_plain_eq  :Lf.fnE table_plainCtx table_plainCode table_plainAnn [] [(.st xY42)] [.cell 0 78] ()=table_plain  :=by kernel_rfl
noncomputable def table_plainEnt:Nat×Lf.Entry:=(154,⟨[],[(.st xY42)],fun _=>table_plain ⟩)
theorem table_plain_ok:Lf.EntryOk Go.Proofs.Tryz.prog GG 154 table_plainEnt.2:=
 Lf.fn_ok (c:=table_plainCtx) (code:=table_plainCode) (an:=table_plainAnn) (slots:=[.cell 0 78]) (fn:=Go.Proofs.Tryz.f154) (by kernel_rfl) ⟨Tys_ok,Lf.FnsOk.look .nil,Lf.IpsOk.look .nil,TysEq_ok,TysIm_ok,Lf.IvsOk.look .nil,Lf.FxsOk.look .nil⟩ (by kernel_rfl) (by kernel_rfl) (by kernel_rfl) (by kernel_rfl) (by kernel_rfl) (Nat.le_of_ble_eq_true rfl) (by simp [Lf.Ty.top]) (by simp [Lf.Ty.top]) fun z r h=>(table_plain_eq ).trans h
noncomputable def table_RowCtx:Lf.Ctx:=⟨116,Tys,[table_FillEnt,table_WideEnt,table_columnsEnt,table_plainEnt],[4,7,13,15,46,59,92,96,110,115],[],[(4,xY49),(7,xY53),(13,xY49),(15,(.rw 78 (.st xY42))),(59,xY53),(92,(.rw 78 (.st xY42))),(96,(.rw 78 (.st xY42))),(110,xY49),(115,xY49)],[],TysEq,[],some 4611686018427387904,TysIm,[]⟩
noncomputable def table_RowCode:Go.Code:=(Go.Proofs.Tryz.f123.body).getD .skip
def table_RowAnn:Lf.Ann:=(.seq .no (.seq (.seq (.join (.one .nrm ⟨[0,1],[],[(33, .bool)],[],[]⟩) .no) .no) (.seq .no (.seq .no (.seq .no (.seq (.seq .no (.loop ⟨[0,39,40],[],[(41,(.int .i64)),(8,(.int .i64)),(7,xY53)],[],[]⟩ (.more (.ext 0) ⟨[0],[],[(7,xY53),(8,(.int .i64))],[],[]⟩ (.one .ret ⟨[],[],[(4,xY49),(5,(.int .i64))],[],[]⟩)) .no)) (.seq .no (.seq (.seq .no (.loop ⟨[0,68],[],[(69,(.int .i64)),(13,xY49),(7,xY53)],[],[]⟩ (.one (.ext 2) ⟨[],[],[(13,xY49)],[],[]⟩) (.seq .no (.seq .no (.seq (.seq .no (.seq .no (.seq .no (.seq (.seq .no (.loop ⟨[14,0,72,68,69,73],[],[(74,(.int .i64)),(16,(.int .i64)),(15,(.rw 78 (.st xY42))),(7,xY53),(13,xY49)],[],[]⟩ (.one (.ext 4) ⟨[0,68,69],[],[(7,xY53),(15,(.rw 78 (.st xY42))),(13,xY49)],[],[]⟩) (.seq .no (.seq .no (.seq (.join (.one .nrm ⟨[14,0,72,68,69,73,74],[],[(16,(.int .i64)),(15,(.rw 78 (.st xY42))),(7,xY53),(13,xY49)],[],[]⟩) (.seq .no (.seq .no (.seq (.loop ⟨[14,0,72,68,69,73,74,18,17],[],[(16,(.int .i64)),(15,(.rw 78 (.st xY42))),(7,xY53),(13,xY49)],[],[]⟩ (.one (.ext 6) ⟨[14,0,72,68,69,73,74,18],[],[(7,xY53),(13,xY49),(16,(.int .i64)),(15,(.rw 78 (.st xY42)))],[],[]⟩) .no) .no)))) .no))))) .no)))) .no))))) .no))))))))
noncomputable def table_Row (a0:List ((Int)×((Int)×(Unit)))) (a1:List (List xT25)):Option ((List (List xT25))×(Int)):=
 (bif (!(decide (((((List.length a0):Nat):Int):Int)≠(((List.length a1):Nat):Int)))) then bif (!(decide ((((List.length a0):Nat):Int)<(1:Int)))) then some (decide ((8:Int)<(((List.length a0):Nat):Int)))
  else some true
  else some true).bind fun r1=>
 bif r1 then some (([]:List (List xT25)),(1:Int))
 else ((Go.Fn.table_columns a0)).bind fun r2=>
 bif (decide ((r2:Int)≠(0:Int))) then some (([]:List (List xT25)),r2)
 else (Lf.loopU (σ:=(Int)×((Int)×xT36)) (κ:=(xT36×(Int))⊕((List (List xT25))×(Int))) (fun z3=>
   bif (decide (z3.1<(((List.length a1):Nat):Int))) then ((Lf.idx a1 z3.1)).bind fun r4=>
   ((Lf.idx a0 z3.1)).bind fun r5=>
   ((Go.Fn.table_Fill r4 r5.2.1)).bind fun r6=>
   bif (decide ((r6.2:Int)≠(0:Int))) then some (.inr (.inr (([]:List (List xT25)),r6.2)))
   else ((Lf.app (24:Nat) z3.2.2 (r6.1::([]:List (List (List xT25)))))).bind fun r7=>
   some (.inl ((Go.IntKind.wrap .i64 (z3.1+(1:Int))),((Max.max z3.2.1 (((List.length r6.1):Nat):Int)),r7)))
   else some (.inr (.inl (z3.2.2,z3.2.1)))) ((0:Int),((0:Int),([]:List (List (List xT25))))):Option ((xT36×(Int))⊕((List (List xT25))×(Int)))).bind fun r8=>
 Lf.onSum r8 (fun a9=>
 (Lf.loopU (σ:=(Int)×((List (List xT25))×xT36)) (κ:=List (List xT25)) (fun z10=>
   bif (decide (z10.1<a9.2)) then (Lf.loopU (σ:=(Int)×((Int)×((List xT25)×(xT36×(List (List xT25)))))) (κ:=xT36×((List xT25)×(List (List xT25)))) (fun z11=>
     bif (decide (z11.1<(((List.length z10.2.2):Nat):Int))) then (((Lf.idx z10.2.2 z11.1)).bind fun r12=>
      bif (decide ((((List.length r12):Nat):Int)≤z10.1)) then some z11.2
      else (Lf.loopU (σ:=(Int)×((List xT25)×(xT36×(List (List xT25))))) (κ:=xT36×((List (List xT25))×((Int)×(List xT25)))) (fun z13=>
        ((Lf.idx a0 z11.1)).bind fun r14=>
        bif (decide (z13.1<r14.1)) then (Go.Fn.table_plain).bind fun r15=>
        ((Lf.app (48:Nat) z13.2.1 (r15::([]:List xT25)))).bind fun r16=>
        some (.inl ((Go.IntKind.wrap .i64 (z13.1+(1:Int))),(r16,z13.2.2)))
        else some (.inr (z13.2.2.1,(z13.2.2.2,(z13.1,z13.2.1))))) z11.2:Option (xT36×((List (List xT25))×((Int)×(List xT25))))).bind fun r17=>
      ((Lf.idx r12 z10.1)).bind fun r18=>
      ((Lf.app (48:Nat) r17.2.2.2 r18)).bind fun r19=>
      ((Lf.idx r12 z10.1)).bind fun r20=>
      ((Go.Fn.table_Wide r20)).bind fun r21=>
      some ((Go.IntKind.wrap .i64 (r17.2.2.1+r21)),(r19,(r17.1,r17.2.1))):Option ((Int)×((List xT25)×(xT36×(List (List xT25)))))).bind fun r22=>
     some (.inl ((Go.IntKind.wrap .i64 (z11.1+(1:Int))),r22))
     else some (.inr (z11.2.2.2.1,(z11.2.2.1,z11.2.2.2.2)))) ((0:Int),((0:Int),(([]:List xT25),(z10.2.2,z10.2.1)))):Option (xT36×((List xT25)×(List (List xT25))))).bind fun r23=>
   ((Lf.app (24:Nat) r23.2.2 (r23.2.1::([]:List (List xT25))))).bind fun r24=>
   some (.inl ((Go.IntKind.wrap .i64 (z10.1+(1:Int))),(r24,r23.1)))
   else some (.inr z10.2.1)) ((0:Int),(([]:List (List xT25)),a9.1)):Option (List (List xT25))).bind fun r25=>
 some (r25,(0:Int))) (fun b26=>
 some b26)
theorem table_Row_eq (a0:List ((Int)×((Int)×(Unit)))) (a1:List (List xT25)):Lf.fnE table_RowCtx table_RowCode table_RowAnn [.val (.sl (.st xY1)), .val (.sl (.sl (.st xY42)))] [xY49,(.int .i64)] [.tmp 4, .tmp 5] (a0,a1)=table_Row a0 a1:=by kernel_rfl
noncomputable def table_RowEnt:Nat×Lf.Entry:=(123,⟨[.val (.sl (.st xY1)), .val (.sl (.sl (.st xY42)))],[xY49,(.int .i64)],fun z=>table_Row z.1 z.2⟩)
theorem table_Row_ok:Lf.EntryOk Go.Proofs.Tryz.prog GG 123 table_RowEnt.2:=
 Lf.fn_ok (c:=table_RowCtx) (code:=table_RowCode) (an:=table_RowAnn) (slots:=[.tmp 4, .tmp 5]) (fn:=Go.Proofs.Tryz.f123) (by kernel_rfl) ⟨Tys_ok,Lf.FnsOk.look (.con table_Fill_ok (.con table_Wide_ok (.con table_columns_ok (.con table_plain_ok .nil)))),Lf.IpsOk.look .nil,TysEq_ok,TysIm_ok,Lf.IvsOk.look .nil,Lf.FxsOk.look .nil⟩ (by kernel_rfl) (by kernel_rfl) (by kernel_rfl) (by kernel_rfl) (by kernel_rfl) (Nat.le_of_ble_eq_true rfl) (by simp [Lf.Ty.top]) (by simp [Lf.Ty.top]) fun z r h=>(table_Row_eq z.1 z.2).trans h
noncomputable def vm_Machine__rowCtx:Lf.Ctx:=⟨39,Tys,[vm_Machine__tellEnt,table_RowEnt],[],[],[],[],TysEq,[],some 4611686018427387904,TysIm,[]⟩
noncomputable def vm_Machine__rowCode:Go.Code:=(Go.Proofs.Tryz.f85.body).getD .skip
def vm_Machine__rowAnn:Lf.Ann:=(.seq .no (.seq (.soup 12) (.seq (.seq .no (.loop ⟨[23,24],[(0, .ref 0 [] 0)],[(25,(.int .i64))],[(0,86,(.st xY197))],[]⟩ (.one (.ext 0) ⟨[],[(0, .ref 0 [] 0)],[],[(0,86,(.st xY197))],[]⟩) .no)) .no)))
noncomputable def vm_Machine__row (a0:(Int)×(xT3×xT171)):Option ((Int)×(xT3×xT171)):=
 bif (!a0.2.2.2.2.2.2.2.2.2.2.2.2.2.2.2.1) then some a0
 else ((Go.Fn.table_Row a0.2.2.2.2.2.2.2.2.2.2.2.2.2.1 a0.2.2.2.2.2.2.2.2.2.2.2.2.1)).bind fun r1=>
 (Lf.loopU (σ:=(Int)×((Int)×(xT3×xT171))) (κ:=(Int)×(xT3×xT171)) (fun z2=>
   bif (decide (z2.1<(((List.length r1.1):Nat):Int))) then ((Lf.idx r1.1 z2.1)).bind fun r3=>
   ((Go.Fn.vm_Machine__tell z2.2 r3)).bind fun r4=>
   some (.inl ((Go.IntKind.wrap .i64 (z2.1+(1:Int))),r4))
   else some (.inr z2.2)) ((0:Int),a0):Option ((Int)×(xT3×xT171))).bind fun r5=>
 some (Lf.u12 r5 (([]:List (List xT25)),(r5.2.2.2.2.2.2.2.2.2.2.2.2.2.1,(r5.2.2.2.2.2.2.2.2.2.2.2.2.2.2.1,(false,r5.2.2.2.2.2.2.2.2.2.2.2.2.2.2.2.2)))))
theorem vm_Machine__row_eq (a0:(Int)×(xT3×xT171)):Lf.fnE vm_Machine__rowCtx vm_Machine__rowCode vm_Machine__rowAnn [.obj 86 (.st xY197) (.st xY197) []] [] [] (a0)=vm_Machine__row a0:=by kernel_rfl
noncomputable def vm_Machine__rowEnt:Nat×Lf.Entry:=(85,⟨[.obj 86 (.st xY197) (.st xY197) []],[],fun z=>vm_Machine__row z⟩)
theorem vm_Machine__row_ok:Lf.EntryOk Go.Proofs.Tryz.prog GG 85 vm_Machine__rowEnt.2:=
 Lf.fn_ok (c:=vm_Machine__rowCtx) (code:=vm_Machine__rowCode) (an:=vm_Machine__rowAnn) (slots:=[]) (fn:=Go.Proofs.Tryz.f85) (by kernel_rfl) ⟨Tys_ok,Lf.FnsOk.look (.con vm_Machine__tell_ok (.con table_Row_ok .nil)),Lf.IpsOk.look .nil,TysEq_ok,TysIm_ok,Lf.IvsOk.look .nil,Lf.FxsOk.look .nil⟩ (by kernel_rfl) (by kernel_rfl) (by kernel_rfl) (by kernel_rfl) (by kernel_rfl) (Nat.le_of_ble_eq_true rfl) (by simp [Lf.Ty.top]) (by simp [Lf.Ty.top]) fun z r h=>(vm_Machine__row_eq z).trans h
noncomputable def vm_Machine__blockCtx:Lf.Ctx:=⟨166,Tys,[vm_Machine__topEnt,vm_Machine__pushEnt,vm_Machine__styledEnt,vm_Machine__popEnt,vm_Machine__tellEnt,vm_Machine__endEnt,vm_Machine__settleEnt,vm_Machine__markEnt,table_ColumnsEnt,vm_Machine__rowEnt],[58,163],[],[(58,(.rw 125 (.st xY1)))],[],TysEq,[],some 4611686018427387904,TysIm,[]⟩
noncomputable def vm_Machine__blockCode:Go.Code:=(Go.Proofs.Tryz.f42.body).getD .skip
def vm_Machine__blockAnn:Lf.Ann:=(.seq .no (.seq .no (.seq .no (.cnd (.seq (.join (.one .nrm ⟨[],[(0, .ref 0 [] 0),(3, .ref 3 [] 0)],[],[(0,86,(.st xY197)),(3,64,xY44)],[]⟩) (.seq (.join (.one .nrm ⟨[],[(0, .ref 0 [] 0),(3, .ref 3 [] 0)],[(26, .bool)],[(0,86,(.st xY197)),(3,64,xY44)],[]⟩) .no) .no)) (.seq .no (.draw 11))) (.seq .no (.cnd .no (.seq .no (.cnd (.seq .no (.seq (.soup 13) .no)) (.seq .no (.cnd .no (.seq .no (.cnd (.seq (.soup 11) .no) (.seq .no (.cnd (.seq .no (.seq .no (.draw 16))) .no))))))))))))))
noncomputable def vm_Machine__block (a0:(Int)×(xT3×xT171)) (a1:(Int)×((Int)×xT4)):Option ((Int)×(xT3×xT171)):=
 bif (decide ((a1.2.2.1:Int)=(8:Int))) then ((bif a0.2.2.2.2.2.2.2.2.2.2.2.2.2.2.2.2.2.2.2.1 then bif (decide ((a0.2.2.2.2.2.2.2.2.2.2.2.2.2.2.2.2.2.1:List (UInt8))=([]:List (UInt8)))) then some ((!a0.2.2.2.2.2.2.2.2.2.2.2.2.2.2.1),(a0,a1))
   else some (false,(a0,a1))
   else some (false,(a0,a1))).bind fun r1=>
  bif r1.1 then ((Go.Fn.vm_Machine__tell r1.2.1 ([]:List xT25))).bind fun r2=>
  some (r2,r1.2.2)
  else some r1.2).bind fun r3=>
 ((Go.Fn.vm_Machine__top (Lf.u11 r3.1 (([]:List xT25),r3.1.2.2.2.2.2.2.2.2.2.2.2.2)))).bind fun r4=>
 ((Go.Fn.vm_Machine__styled (Lf.u11 r3.1 (([]:List xT25),r3.1.2.2.2.2.2.2.2.2.2.2.2.2)) r4 r3.2.2.2.2.1)).bind fun r5=>
 ((Go.Fn.vm_Machine__push (Lf.u11 r3.1 (([]:List xT25),r3.1.2.2.2.2.2.2.2.2.2.2.2.2)) r3.2.2.2.1 r3.2.2.2.2.1 r5)).bind fun r6=>
 some r6
 else bif (decide ((a1.2.2.1:Int)=(9:Int))) then ((Go.Fn.vm_Machine__pop a0)).bind fun r7=>
 ((Go.Fn.vm_Machine__end r7.2)).bind fun r8=>
 some r8
 else bif (decide ((a1.2.2.1:Int)=(10:Int))) then ((Go.Fn.vm_Machine__settle a0)).bind fun r9=>
 ((Lf.app (16:Nat) r9.2.2.2.2.2.2.2.2.2.2.1 ((r9.2.2.2.2.2.2.2.2.2.2.2.2.2.2.2.2.1,(a1.2.2.2.1,()))::([]:List ((Int)×((Int)×(Unit))))))).bind fun r10=>
 ((Go.Fn.vm_Machine__push (Lf.u10 r9 (r10,r9.2.2.2.2.2.2.2.2.2.2.2)) a1.2.2.1 (0:Int) ((0:Int),((0:Int),())))).bind fun r11=>
 some r11
 else bif (decide ((a1.2.2.1:Int)=(11:Int))) then ((Go.Fn.vm_Machine__settle a0)).bind fun r12=>
 ((Go.Fn.vm_Machine__mark r12)).bind fun r13=>
 some r13
 else bif (decide ((a1.2.2.1:Int)=(12:Int))) then ((Go.Fn.table_Columns a1.2.2.2.2.1 a0.2.2.2.2.1)).bind fun r14=>
 ((Go.Fn.vm_Machine__push (Lf.u13 a0 (r14.1,(true,a0.2.2.2.2.2.2.2.2.2.2.2.2.2.2.2))) a1.2.2.1 (0:Int) ((0:Int),((0:Int),())))).bind fun r15=>
 some r15
 else bif (decide ((a1.2.2.1:Int)=(13:Int))) then ((Go.Fn.vm_Machine__row a0)).bind fun r16=>
 ((Lf.chk (32:Nat) (Go.IntKind.wrap .i64 (r16.2.2.2.2.2.2.2.2.2.1 - (1:Int))))).bind fun r17=>
 ((Lf.nth (Lf.arL xY38 (32:Nat) r16.2.2.2.2.2.2.2.2.1) r17)).bind fun r18=>
 ((Lf.chk (32:Nat) (Go.IntKind.wrap .i64 (r16.2.2.2.2.2.2.2.2.2.1 - (1:Int))))).bind fun r19=>
 ((Lf.nth (Lf.arL xY38 (32:Nat) r16.2.2.2.2.2.2.2.2.1) r19)).bind fun r20=>
 some (Lf.u8 r16 ((Lf.arS xY38 (32:Nat) r16.2.2.2.2.2.2.2.2.1 r19 (r20.1,((Go.IntKind.wrap .i64 (r18.2.1+(1:Int))),r20.2.2))),(r16.2.2.2.2.2.2.2.2.2.1,(r16.2.2.2.2.2.2.2.2.2.2.1,(r16.2.2.2.2.2.2.2.2.2.2.2.1,(r16.2.2.2.2.2.2.2.2.2.2.2.2.1,(r16.2.2.2.2.2.2.2.2.2.2.2.2.2.1,(r16.2.2.2.2.2.2.2.2.2.2.2.2.2.2.1,(true,r16.2.2.2.2.2.2.2.2.2.2.2.2.2.2.2.2)))))))))
 else bif (decide ((a1.2.2.1:Int)=(14:Int))) then ((Go.Fn.vm_Machine__pop a0)).bind fun r21=>
 bif (decide ((r21.1.1:Int)=(12:Int))) then ((Go.Fn.vm_Machine__row r21.2)).bind fun r22=>
 some (Lf.u14 r22 (false,r22.2.2.2.2.2.2.2.2.2.2.2.2.2.2.2))
 else ((Go.Fn.vm_Machine__settle r21.2)).bind fun r23=>
 ((Lf.chk (List.length r23.2.2.2.2.2.2.2.2.2.2.1) (Go.IntKind.wrap .i64 ((((List.length r23.2.2.2.2.2.2.2.2.2.2.1):Nat):Int) - (1:Int))))).bind fun r24=>
 ((Lf.nth r23.2.2.2.2.2.2.2.2.2.2.1 r24)).bind fun r25=>
 ((Lf.sub r23.2.2.2.2.2.2.2.2.2.2.1 (0:Int) (Go.IntKind.wrap .i64 ((((List.length r23.2.2.2.2.2.2.2.2.2.2.1):Nat):Int) - (1:Int))))).bind fun r26=>
 some (Lf.u10 r23 (r26,(r23.2.2.2.2.2.2.2.2.2.2.2.1,(r23.2.2.2.2.2.2.2.2.2.2.2.2.1,(r23.2.2.2.2.2.2.2.2.2.2.2.2.2.1,(r23.2.2.2.2.2.2.2.2.2.2.2.2.2.2.1,(r23.2.2.2.2.2.2.2.2.2.2.2.2.2.2.2.1,(r25.1,r23.2.2.2.2.2.2.2.2.2.2.2.2.2.2.2.2.2))))))))
 else some a0
theorem vm_Machine__block_eq (a0:(Int)×(xT3×xT171)) (a1:(Int)×((Int)×xT4)):Lf.fnE vm_Machine__blockCtx vm_Machine__blockCode vm_Machine__blockAnn [.obj 86 (.st xY197) (.st xY197) [], .val xY44] [] [] (a0,a1)=vm_Machine__block a0 a1:=by kernel_rfl
noncomputable def vm_Machine__blockEnt:Nat×Lf.Entry:=(42,⟨[.obj 86 (.st xY197) (.st xY197) [], .val xY44],[],fun z=>vm_Machine__block z.1 z.2⟩)
theorem vm_Machine__block_ok:Lf.EntryOk Go.Proofs.Tryz.prog GG 42 vm_Machine__blockEnt.2:=
 Lf.fn_ok (c:=vm_Machine__blockCtx) (code:=vm_Machine__blockCode) (an:=vm_Machine__blockAnn) (slots:=[]) (fn:=Go.Proofs.Tryz.f42) (by kernel_rfl) ⟨Tys_ok,Lf.FnsOk.look (.con vm_Machine__top_ok (.con vm_Machine__push_ok (.con vm_Machine__styled_ok (.con vm_Machine__pop_ok (.con vm_Machine__tell_ok (.con vm_Machine__end_ok (.con vm_Machine__settle_ok (.con vm_Machine__mark_ok (.con table_Columns_ok (.con vm_Machine__row_ok .nil)))))))))),Lf.IpsOk.look .nil,TysEq_ok,TysIm_ok,Lf.IvsOk.look .nil,Lf.FxsOk.look .nil⟩ (by kernel_rfl) (by kernel_rfl) (by kernel_rfl) (by kernel_rfl) (by kernel_rfl) (Nat.le_of_ble_eq_true rfl) (by simp [Lf.Ty.top]) (by simp [Lf.Ty.top]) fun z r h=>(vm_Machine__block_eq z.1 z.2).trans h
noncomputable def vm_Machine__HaltedCtx:Lf.Ctx:=⟨11,Tys,[vm_Machine__isEnt],[],[],[],[],TysEq,[],some 4611686018427387904,TysIm,[]⟩
noncomputable def vm_Machine__HaltedCode:Go.Code:=(Go.Proofs.Tryz.f22.body).getD .skip
def vm_Machine__HaltedAnn:Lf.Ann:=(.seq .no (.seq (.join (.one .nrm ⟨[],[],[(2, .bool)],[],[]⟩) .no) .no))
noncomputable def vm_Machine__Halted (a0:(Int)×(xT3×xT171)):Option (Bool):=
 (((Go.Fn.vm_Machine__is a0)).bind fun r1=>
  bif r1 then some a0.2.2.2.2.2.2.2.1
  else some false).bind fun r2=>
 some r2
theorem vm_Machine__Halted_eq (a0:(Int)×(xT3×xT171)):Lf.fnE vm_Machine__HaltedCtx vm_Machine__HaltedCode vm_Machine__HaltedAnn [.val (.ptr (.st xY196))] [.bool] [.tmp 2] (a0)=vm_Machine__Halted a0:=by kernel_rfl
noncomputable def vm_Machine__HaltedEnt:Nat×Lf.Entry:=(22,⟨[.val (.ptr (.st xY196))],[.bool],fun z=>vm_Machine__Halted z⟩)
theorem vm_Machine__Halted_ok:Lf.EntryOk Go.Proofs.Tryz.prog GG 22 vm_Machine__HaltedEnt.2:=
 Lf.fn_ok (c:=vm_Machine__HaltedCtx) (code:=vm_Machine__HaltedCode) (an:=vm_Machine__HaltedAnn) (slots:=[.tmp 2]) (fn:=Go.Proofs.Tryz.f22) (by kernel_rfl) ⟨Tys_ok,Lf.FnsOk.look (.con vm_Machine__is_ok .nil),Lf.IpsOk.look .nil,TysEq_ok,TysIm_ok,Lf.IvsOk.look .nil,Lf.FxsOk.look .nil⟩ (by kernel_rfl) (by kernel_rfl) (by kernel_rfl) (by kernel_rfl) (by kernel_rfl) (Nat.le_of_ble_eq_true rfl) (by simp [Lf.Ty.top]) (by simp [Lf.Ty.top]) fun z r h=>(vm_Machine__Halted_eq z).trans h
noncomputable def vm_Machine__AtCtx:Lf.Ctx:=⟨17,Tys,[vm_Machine__isEnt],[],[],[],[],TysEq,[],some 4611686018427387904,TysIm,[]⟩
noncomputable def vm_Machine__AtCode:Go.Code:=(Go.Proofs.Tryz.f23.body).getD .skip
def vm_Machine__AtAnn:Lf.Ann:=(.seq .no (.seq .no (.seq (.draw 12) .no)))
noncomputable def vm_Machine__At (a0:(Int)×(xT3×xT171)):Option (Int):=
 ((Go.Fn.vm_Machine__is a0)).bind fun r1=>
 bif (!r1) then some (0:Int)
 else ((Lf.idx a0.2.2.1 a0.2.2.2.2.2.1)).bind fun r2=>
 some r2.1
theorem vm_Machine__At_eq (a0:(Int)×(xT3×xT171)):Lf.fnE vm_Machine__AtCtx vm_Machine__AtCode vm_Machine__AtAnn [.val (.ptr (.st xY196))] [(.int .i64)] [.tmp 2] (a0)=vm_Machine__At a0:=by kernel_rfl
noncomputable def vm_Machine__AtEnt:Nat×Lf.Entry:=(23,⟨[.val (.ptr (.st xY196))],[(.int .i64)],fun z=>vm_Machine__At z⟩)
theorem vm_Machine__At_ok:Lf.EntryOk Go.Proofs.Tryz.prog GG 23 vm_Machine__AtEnt.2:=
 Lf.fn_ok (c:=vm_Machine__AtCtx) (code:=vm_Machine__AtCode) (an:=vm_Machine__AtAnn) (slots:=[.tmp 2]) (fn:=Go.Proofs.Tryz.f23) (by kernel_rfl) ⟨Tys_ok,Lf.FnsOk.look (.con vm_Machine__is_ok .nil),Lf.IpsOk.look .nil,TysEq_ok,TysIm_ok,Lf.IvsOk.look .nil,Lf.FxsOk.look .nil⟩ (by kernel_rfl) (by kernel_rfl) (by kernel_rfl) (by kernel_rfl) (by kernel_rfl) (Nat.le_of_ble_eq_true rfl) (by simp [Lf.Ty.top]) (by simp [Lf.Ty.top]) fun z r h=>(vm_Machine__At_eq z).trans h
noncomputable def vm_Machine__StepsCtx:Lf.Ctx:=⟨10,Tys,[vm_Machine__isEnt],[],[],[],[],TysEq,[],some 4611686018427387904,TysIm,[]⟩
noncomputable def vm_Machine__StepsCode:Go.Code:=(Go.Proofs.Tryz.f24.body).getD .skip
def vm_Machine__StepsAnn:Lf.Ann:= .no
noncomputable def vm_Machine__Steps (a0:(Int)×(xT3×xT171)):Option (Int):=
 ((Go.Fn.vm_Machine__is a0)).bind fun r1=>
 bif (!r1) then some (0:Int)
 else some a0.2.2.2.2.2.2.1
theorem vm_Machine__Steps_eq (a0:(Int)×(xT3×xT171)):Lf.fnE vm_Machine__StepsCtx vm_Machine__StepsCode vm_Machine__StepsAnn [.val (.ptr (.st xY196))] [(.int .i64)] [.tmp 2] (a0)=vm_Machine__Steps a0:=by kernel_rfl
noncomputable def vm_Machine__StepsEnt:Nat×Lf.Entry:=(24,⟨[.val (.ptr (.st xY196))],[(.int .i64)],fun z=>vm_Machine__Steps z⟩)
theorem vm_Machine__Steps_ok:Lf.EntryOk Go.Proofs.Tryz.prog GG 24 vm_Machine__StepsEnt.2:=
 Lf.fn_ok (c:=vm_Machine__StepsCtx) (code:=vm_Machine__StepsCode) (an:=vm_Machine__StepsAnn) (slots:=[.tmp 2]) (fn:=Go.Proofs.Tryz.f24) (by kernel_rfl) ⟨Tys_ok,Lf.FnsOk.look (.con vm_Machine__is_ok .nil),Lf.IpsOk.look .nil,TysEq_ok,TysIm_ok,Lf.IvsOk.look .nil,Lf.FxsOk.look .nil⟩ (by kernel_rfl) (by kernel_rfl) (by kernel_rfl) (by kernel_rfl) (by kernel_rfl) (Nat.le_of_ble_eq_true rfl) (by simp [Lf.Ty.top]) (by simp [Lf.Ty.top]) fun z r h=>(vm_Machine__Steps_eq z).trans h
noncomputable def vm_Machine__StackCtx:Lf.Ctx:=⟨15,Tys,[vm_Machine__isEnt,clone_FEnt],[2],[],[(2,(.rw 76 xY38)),(14,(.mr 76 xY38)),(8000014, .unit)],[],TysEq,[],some 4611686018427387904,TysIm,[]⟩
noncomputable def vm_Machine__StackCode:Go.Code:=(Go.Proofs.Tryz.f25.body).getD .skip
def vm_Machine__StackAnn:Lf.Ann:=(.seq .no (.seq .no (.seq (.draw 8) .no)))
noncomputable def vm_Machine__Stack (a0:(Int)×(xT3×xT171)):Option ((List ((Int)×xT9))×((Int)×(xT3×xT171))):=
 ((Go.Fn.vm_Machine__is a0)).bind fun r1=>
 bif (!r1) then none
 else ((Lf.chk (33:Nat) a0.2.2.2.2.2.2.2.2.2.1)).bind fun r2=>
 ((Go.Fn.clone_F (List.take r2 (Lf.arL xY38 (32:Nat) a0.2.2.2.2.2.2.2.2.1)))).bind fun r3=>
 some (r3,a0)
theorem vm_Machine__Stack_eq (a0:(Int)×(xT3×xT171)):Lf.fnE vm_Machine__StackCtx vm_Machine__StackCode vm_Machine__StackAnn [.obj 86 (.st xY197) (.st xY197) []] [(.mr 76 xY38)] [.tmp 2] (a0)=vm_Machine__Stack a0:=by kernel_rfl
noncomputable def vm_Machine__StackEnt:Nat×Lf.Entry:=(25,⟨[.obj 86 (.st xY197) (.st xY197) []],[(.mr 76 xY38)],fun z=>vm_Machine__Stack z⟩)
theorem vm_Machine__Stack_ok:Lf.EntryOk Go.Proofs.Tryz.prog GG 25 vm_Machine__StackEnt.2:=
 Lf.fn_ok (c:=vm_Machine__StackCtx) (code:=vm_Machine__StackCode) (an:=vm_Machine__StackAnn) (slots:=[.tmp 2]) (fn:=Go.Proofs.Tryz.f25) (by kernel_rfl) ⟨Tys_ok,Lf.FnsOk.look (.con vm_Machine__is_ok (.con clone_F_ok .nil)),Lf.IpsOk.look .nil,TysEq_ok,TysIm_ok,Lf.IvsOk.look .nil,Lf.FxsOk.look .nil⟩ (by kernel_rfl) (by kernel_rfl) (by kernel_rfl) (by kernel_rfl) (by kernel_rfl) (Nat.le_of_ble_eq_true rfl) (by simp [Lf.Ty.top]) (by simp [Lf.Ty.top]) fun z r h=>(vm_Machine__Stack_eq z).trans h
noncomputable def vm_Machine__LinesCtx:Lf.Ctx:=⟨11,Tys,[vm_Machine__isEnt],[],[],[],[],TysEq,[],some 4611686018427387904,TysIm,[]⟩
noncomputable def vm_Machine__LinesCode:Go.Code:=(Go.Proofs.Tryz.f26.body).getD .skip
def vm_Machine__LinesAnn:Lf.Ann:= .no
noncomputable def vm_Machine__Lines (a0:(Int)×(xT3×xT171)):Option (Int):=
 ((Go.Fn.vm_Machine__is a0)).bind fun r1=>
 bif (!r1) then some (0:Int)
 else some (((List.length a0.2.2.2.2.2.2.2.2.2.2.2.2.2.2.2.2.2.2.2.2.2.2.1):Nat):Int)
theorem vm_Machine__Lines_eq (a0:(Int)×(xT3×xT171)):Lf.fnE vm_Machine__LinesCtx vm_Machine__LinesCode vm_Machine__LinesAnn [.val (.ptr (.st xY196))] [(.int .i64)] [.tmp 2] (a0)=vm_Machine__Lines a0:=by kernel_rfl
noncomputable def vm_Machine__LinesEnt:Nat×Lf.Entry:=(26,⟨[.val (.ptr (.st xY196))],[(.int .i64)],fun z=>vm_Machine__Lines z⟩)
theorem vm_Machine__Lines_ok:Lf.EntryOk Go.Proofs.Tryz.prog GG 26 vm_Machine__LinesEnt.2:=
 Lf.fn_ok (c:=vm_Machine__LinesCtx) (code:=vm_Machine__LinesCode) (an:=vm_Machine__LinesAnn) (slots:=[.tmp 2]) (fn:=Go.Proofs.Tryz.f26) (by kernel_rfl) ⟨Tys_ok,Lf.FnsOk.look (.con vm_Machine__is_ok .nil),Lf.IpsOk.look .nil,TysEq_ok,TysIm_ok,Lf.IvsOk.look .nil,Lf.FxsOk.look .nil⟩ (by kernel_rfl) (by kernel_rfl) (by kernel_rfl) (by kernel_rfl) (by kernel_rfl) (Nat.le_of_ble_eq_true rfl) (by simp [Lf.Ty.top]) (by simp [Lf.Ty.top]) fun z r h=>(vm_Machine__Lines_eq z).trans h
noncomputable def vm_Machine__LineCtx:Lf.Ctx:=⟨28,Tys,[vm_Machine__isEnt,clone_GEnt],[4],[],[(4,(.rw 78 (.st xY42)))],[],TysEq,[],some 4611686018427387904,TysIm,[]⟩
noncomputable def vm_Machine__LineCode:Go.Code:=(Go.Proofs.Tryz.f19.body).getD .skip
def vm_Machine__LineAnn:Lf.Ann:=(.seq .no (.seq .no (.seq (.seq (.join (.one .nrm ⟨[1],[(0, .ref 0 [] 0)],[(19, .bool)],[(0,86,(.st xY197))],[]⟩) .no) .no) .no)))
noncomputable def vm_Machine__Line (a0:(Int)×(xT3×xT171)) (a1:Int):Option ((List xT25)×((Int)×((Int)×(xT3×xT171)))):=
 ((Go.Fn.vm_Machine__is a0)).bind fun r1=>
 bif (!r1) then some (([]:List xT25),((182:Int),a0))
 else (bif (!(decide (a1<(0:Int)))) then some ((decide ((((List.length a0.2.2.2.2.2.2.2.2.2.2.2.2.2.2.2.2.2.2.2.2.2.2.1):Nat):Int)≤a1)),a0)
  else some (true,a0)).bind fun r2=>
 bif r2.1 then some (([]:List xT25),((1:Int),r2.2))
 else ((Lf.idx r2.2.2.2.2.2.2.2.2.2.2.2.2.2.2.2.2.2.2.2.2.2.2.2.1 a1)).bind fun r3=>
 ((Go.Fn.clone_G r3)).bind fun r4=>
 some (r4,((0:Int),r2.2))
theorem vm_Machine__Line_eq (a0:(Int)×(xT3×xT171)) (a1:Int):Lf.fnE vm_Machine__LineCtx vm_Machine__LineCode vm_Machine__LineAnn [.obj 86 (.st xY197) (.st xY197) [], .val (.int .i64)] [(.rw 78 (.st xY42)),(.int .i64)] [.tmp 4, .tmp 5] (a0,a1)=vm_Machine__Line a0 a1:=by kernel_rfl
noncomputable def vm_Machine__LineEnt:Nat×Lf.Entry:=(19,⟨[.obj 86 (.st xY197) (.st xY197) [], .val (.int .i64)],[(.rw 78 (.st xY42)),(.int .i64)],fun z=>vm_Machine__Line z.1 z.2⟩)
theorem vm_Machine__Line_ok:Lf.EntryOk Go.Proofs.Tryz.prog GG 19 vm_Machine__LineEnt.2:=
 Lf.fn_ok (c:=vm_Machine__LineCtx) (code:=vm_Machine__LineCode) (an:=vm_Machine__LineAnn) (slots:=[.tmp 4, .tmp 5]) (fn:=Go.Proofs.Tryz.f19) (by kernel_rfl) ⟨Tys_ok,Lf.FnsOk.look (.con vm_Machine__is_ok (.con clone_G_ok .nil)),Lf.IpsOk.look .nil,TysEq_ok,TysIm_ok,Lf.IvsOk.look .nil,Lf.FxsOk.look .nil⟩ (by kernel_rfl) (by kernel_rfl) (by kernel_rfl) (by kernel_rfl) (by kernel_rfl) (Nat.le_of_ble_eq_true rfl) (by simp [Lf.Ty.top]) (by simp [Lf.Ty.top]) fun z r h=>(vm_Machine__Line_eq z.1 z.2).trans h
noncomputable def layout_RectsCtx:Lf.Ctx:=⟨66,Tys,[],[],[],[(3,(.mr 93 (.st xY27)))],[],TysEq,[],some 4611686018427387904,TysIm,[]⟩
noncomputable def layout_RectsCode:Go.Code:=(Go.Proofs.Tryz.f58.body).getD .skip
def layout_RectsAnn:Lf.Ann:=(.seq .no (.seq .no (.seq (.seq .no (.loop ⟨[10,11],[],[(3,(.mr 93 (.st xY27))),(12,(.int .i64))],[],[]⟩ (.one (.ext 0) ⟨[],[],[(3,(.mr 93 (.st xY27)))],[],[]⟩) (.seq .no (.seq .no (.seq (.seq .no (.seq .no (.seq .no (.loop ⟨[4,17,10,11,12,18],[],[(19,(.int .i64)),(6,(.int .i64)),(3,(.mr 93 (.st xY27))),(7,(.int .i64))],[],[]⟩ (.one (.ext 2) ⟨[10,11,12],[],[(3,(.mr 93 (.st xY27)))],[],[]⟩) (.seq .no (.seq .no (.seq (.seq .no (.seq (.join (.one .nrm ⟨[4,17,10,11,12,18,19,6],[(9, .ref 9 [] 0)],[(3,(.mr 93 (.st xY27)))],[(9,78,(.st xY42))],[]⟩) (.seq (.join (.one .nrm ⟨[4,17,10,11,12,18,19,6],[(9, .ref 9 [] 0)],[(31, .bool),(3,(.mr 93 (.st xY27)))],[(9,78,(.st xY42))],[]⟩) .no) (.cnd (.draw 12) .no))) (.draw 8))) .no))))))) .no))))) .no)))
noncomputable def layout_Rects (a0:List (List xT25)):Option (List xT7):=
 (Lf.loopU (σ:=(List xT7)×(Int)) (κ:=List xT7) (fun z1=>
   bif (decide (z1.2<(((List.length a0):Nat):Int))) then ((Lf.idx a0 z1.2)).bind fun r2=>
   (Lf.loopU (σ:=(Int)×((Int)×((List xT7)×(Int)))) (κ:=List xT7) (fun z3=>
     bif (decide (z3.1<(((List.length r2):Nat):Int))) then ((Lf.idx r2 z3.1)).bind fun r4=>
     ((bif (decide ((r4.2.2.2.1:Int)≠(0:Int))) then some ((decide ((r4.2.2.2.1:Int)=z3.2.2.2)),(z3.2.2.1,r4))
       else some (false,(z3.2.2.1,r4))).bind fun r5=>
      bif r5.1 then ((Lf.chk (List.length r5.2.1) (Go.IntKind.wrap .i64 ((((List.length r5.2.1):Nat):Int) - (1:Int))))).bind fun r6=>
      ((Lf.nth r5.2.1 r6)).bind fun r7=>
      ((Lf.chk (List.length r5.2.1) (Go.IntKind.wrap .i64 ((((List.length r5.2.1):Nat):Int) - (1:Int))))).bind fun r8=>
      ((Lf.nth r5.2.1 r8)).bind fun r9=>
      some ((List.set r5.2.1 r8 (Lf.u2 r9 ((Go.IntKind.wrap .i64 (r7.2.2.1+r5.2.2.2.1)),r9.2.2.2))),r5.2.2)
      else bif (decide ((r5.2.2.2.2.2.1:Int)≠(0:Int))) then ((Lf.app (32:Nat) r5.2.1 ((z1.2,(z3.2.1,(r5.2.2.2.1,r5.2.2.2.2.2)))::([]:List xT7)))).bind fun r10=>
      some (r10,r5.2.2)
      else some r5.2).bind fun r11=>
     some (.inl ((Go.IntKind.wrap .i64 (z3.1+(1:Int))),((Go.IntKind.wrap .i64 (z3.2.1+r11.2.2.1)),(r11.1,r11.2.2.2.2.1))))
     else some (.inr z3.2.2.1)) ((0:Int),((0:Int),(z1.1,(0:Int)))):Option (List xT7)).bind fun r12=>
   some (.inl (r12,(Go.IntKind.wrap .i64 (z1.2+(1:Int)))))
   else some (.inr z1.1)) (([]:List xT7),(0:Int)):Option (List xT7)).bind fun r13=>
 some r13
theorem layout_Rects_eq (a0:List (List xT25)):Lf.fnE layout_RectsCtx layout_RectsCode layout_RectsAnn [.val (.sl (.sl (.st xY42)))] [(.sl (.st xY27))] [.tmp 2] (a0)=layout_Rects a0:=by kernel_rfl
noncomputable def layout_RectsEnt:Nat×Lf.Entry:=(58,⟨[.val (.sl (.sl (.st xY42)))],[(.sl (.st xY27))],fun z=>layout_Rects z⟩)
theorem layout_Rects_ok:Lf.EntryOk Go.Proofs.Tryz.prog GG 58 layout_RectsEnt.2:=
 Lf.fn_ok (c:=layout_RectsCtx) (code:=layout_RectsCode) (an:=layout_RectsAnn) (slots:=[.tmp 2]) (fn:=Go.Proofs.Tryz.f58) (by kernel_rfl) ⟨Tys_ok,Lf.FnsOk.look .nil,Lf.IpsOk.look .nil,TysEq_ok,TysIm_ok,Lf.IvsOk.look .nil,Lf.FxsOk.look .nil⟩ (by kernel_rfl) (by kernel_rfl) (by kernel_rfl) (by kernel_rfl) (by kernel_rfl) (Nat.le_of_ble_eq_true rfl) (by simp [Lf.Ty.top]) (by simp [Lf.Ty.top]) fun z r h=>(layout_Rects_eq z).trans h
noncomputable def vm_Machine__LaidCtx:Lf.Ctx:=⟨51,Tys,[vm_Machine__isEnt,clone_GEnt,clone_TEnt,layout_RectsEnt],[39,39],[],[(4,(.st (.pr xY49 xY60))),(28,(.st (.pr xY49 xY60))),(39,xY49)],[],TysEq,[],some 4611686018427387904,TysIm,[]⟩
noncomputable def vm_Machine__LaidCode:Go.Code:=(Go.Proofs.Tryz.f27.body).getD .skip
def vm_Machine__LaidAnn:Lf.Ann:=(.seq .no (.seq .no (.seq (.soup 11) (.seq (.seq .no (.loop ⟨[32,33],[(4, .ref 4 [] 0),(2, .ref 2 [] 0),(0, .ref 0 [] 0)],[(34,(.int .i64))],[(4,28,(.st (.pr xY49 xY60))),(2,28,(.st xY84)),(0,86,(.st xY197))],[]⟩ (.one (.ext 1) ⟨[],[(2, .ref 2 [] 0),(0, .ref 0 [] 0),(4, .ref 4 [] 0)],[],[(2,28,(.st xY84)),(0,86,(.st xY197)),(4,28,(.st (.pr xY49 xY60)))],[]⟩) (.seq .no (.seq .no (.seq (.seq .no (.soup 5)) .no))))) .no))))
noncomputable def vm_Machine__Laid (a0:(Int)×(xT3×xT171)):Option (xT66×((Int)×((Int)×(xT3×xT171)))):=
 ((Go.Fn.vm_Machine__is a0)).bind fun r1=>
 bif (!r1) then some ((([]:List (List xT25)),(([]:List xT7),(([]:List ((Int)×((Int)×(Unit)))),(false,())))),((182:Int),a0))
 else bif (!a0.2.2.2.2.2.2.2.1) then some ((([]:List (List xT25)),(([]:List xT7),(([]:List ((Int)×((Int)×(Unit)))),(false,())))),((181:Int),a0))
 else ((Go.Fn.clone_T a0.2.2.2.2.2.2.2.2.2.2.2.2.2.2.2.2.2.2.2.2.2.1)).bind fun r2=>
 (Lf.loopU (σ:=(Int)×(xT66×(xT66×((Int)×(xT3×xT171))))) (κ:=xT66×(((Int)×(xT3×xT171))×xT66)) (fun z3=>
   bif (decide (z3.1<(((List.length a0.2.2.2.2.2.2.2.2.2.2.2.2.2.2.2.2.2.2.2.2.2.2.1):Nat):Int))) then ((Lf.idx a0.2.2.2.2.2.2.2.2.2.2.2.2.2.2.2.2.2.2.2.2.2.2.1 z3.1)).bind fun r4=>
   ((Go.Fn.clone_G r4)).bind fun r5=>
   ((Lf.app (24:Nat) z3.2.1.1 (r5::([]:List (List xT25))))).bind fun r6=>
   some (.inl ((Go.IntKind.wrap .i64 (z3.1+(1:Int))),((r6,z3.2.1.2),z3.2.2)))
   else some (.inr (z3.2.2.1,(z3.2.2.2,z3.2.1)))) ((0:Int),((([]:List (List xT25)),(([]:List xT7),(r2,a0.2.2.2.2.2.2.2.2.2.2.2.2.2.2.2.2.2.2.2.2.2.2.2))),((([]:List (List xT25)),(([]:List xT7),(([]:List ((Int)×((Int)×(Unit)))),(false,())))),a0))):Option (xT66×(((Int)×(xT3×xT171))×xT66))).bind fun r7=>
 ((Go.Fn.layout_Rects r7.2.2.1)).bind fun r8=>
 some ((r7.2.2.1,(r8,r7.2.2.2.2)),((0:Int),r7.2.1))
theorem vm_Machine__Laid_eq (a0:(Int)×(xT3×xT171)):Lf.fnE vm_Machine__LaidCtx vm_Machine__LaidCode vm_Machine__LaidAnn [.obj 86 (.st xY197) (.st xY197) []] [(.st xY84),(.int .i64)] [.cell 2 28, .tmp 3] (a0)=vm_Machine__Laid a0:=by kernel_rfl
noncomputable def vm_Machine__LaidEnt:Nat×Lf.Entry:=(27,⟨[.obj 86 (.st xY197) (.st xY197) []],[(.st xY84),(.int .i64)],fun z=>vm_Machine__Laid z⟩)
theorem vm_Machine__Laid_ok:Lf.EntryOk Go.Proofs.Tryz.prog GG 27 vm_Machine__LaidEnt.2:=
 Lf.fn_ok (c:=vm_Machine__LaidCtx) (code:=vm_Machine__LaidCode) (an:=vm_Machine__LaidAnn) (slots:=[.cell 2 28, .tmp 3]) (fn:=Go.Proofs.Tryz.f27) (by kernel_rfl) ⟨Tys_ok,Lf.FnsOk.look (.con vm_Machine__is_ok (.con clone_G_ok (.con clone_T_ok (.con layout_Rects_ok .nil)))),Lf.IpsOk.look .nil,TysEq_ok,TysIm_ok,Lf.IvsOk.look .nil,Lf.FxsOk.look .nil⟩ (by kernel_rfl) (by kernel_rfl) (by kernel_rfl) (by kernel_rfl) (by kernel_rfl) (Nat.le_of_ble_eq_true rfl) (by simp [Lf.Ty.top]) (by simp [Lf.Ty.top]) fun z r h=>(vm_Machine__Laid_eq z).trans h
end Go.Fn
/-
  Loops over lists, plainly.
-/
namespace Go.Lf
open Go
theorem wrap64 {x:Int} (h0: -9223372036854775808≤x) (h1:x≤9223372036854775807):IntKind.wrap .i64 x=x:=by
 simp only [IntKind.wrap]
 simp [IntKind.bits,IntKind.signed]
 omega
theorem wrapS {n:Nat} (h:n<9223372036854775807):IntKind.wrap .i64 ((n:Int)+1)=((n+1:Nat):Int):=by
 rw [wrap64 (by omega) (by omega)];omega
theorem idx_nat {α:Type} (l:List α) (i:Nat):idx l (i:Int)=l[i]? :=by
 unfold idx
 rw [if_pos (by omega)];rfl
theorem app_of {α:Type} {b:Nat} {l m:List α} (h:(l.length+m.length)*b≤140737488355328):app b l m=some (l++m):=if_pos h
theorem cat_of {l m:List UInt8} (h:l.length+m.length≤9223372036854775807):cat l m=some (l++m):=if_pos h
section
variable {α σ κ:Type}
end
end Go.Lf
/-
  A small logic of answers: an answer is there, and has such a property; loops whose bound nothing reaches.
-/
namespace Go.Lf
open Go
def Ok {α:Type} (x:Option α) (Q:α→Prop):Prop:= ∃ k,x=some k∧Q k
section
variable {α β σ κ:Type}
theorem Ok.some {x:α} {Q:α→Prop} (h:Q x):Ok (some x) Q:=⟨x,rfl,h⟩
theorem Ok.of {x:Option α} {k:α} {Q:α→Prop} (hx:x=Option.some k) (h:Q k):Ok x Q:=⟨k,hx,h⟩
theorem Ok.bind {x:Option α} {f:α→Option β} {Q:α→Prop} {R:β→Prop} (h:Ok x Q) (hf: ∀ a,Q a→Ok (f a) R):Ok (x.bind f) R:=by
 obtain ⟨k,rfl,hk⟩:=h
 exact hf k hk
theorem Ok.imp {x:Option α} {Q R:α→Prop} (h:Ok x Q) (hf: ∀ a,Q a→R a):Ok x R:=by
 obtain ⟨k,rfl,hk⟩:=h
 exact ⟨k,rfl,hf k hk⟩
theorem Ok.and {x:Option α} {Q R:α→Prop} (h:Ok x Q) (h':Ok x R):Ok x fun a=>Q a∧R a:=by
 obtain ⟨k,rfl,hk⟩:=h
 obtain ⟨k',hk',hr⟩:=h'
 injection hk' with hk'
 subst hk'
 exact ⟨k,rfl,hk,hr⟩
theorem Ok.eq {x:Option α} {k:α} (h:Ok x (· =k)):x=Option.some k:=by
 obtain ⟨_,rfl,rfl⟩:=h
 rfl
theorem Ok.cond {b:Bool} {x y:Option α} {Q:α→Prop} (h:b=true→Ok x Q) (h':b=false→Ok y Q):Ok (cond b x y) Q:=by
 cases b
 ·exact h' rfl
 ·exact h rfl
theorem Ok.onSum {d:α⊕β} {f:α→Option κ} {g:β→Option κ} {Q:κ→Prop} (h: ∀ a,d= .inl a→Ok (f a) Q) (h': ∀ b,d= .inr b→Ok (g b) Q):Ok (onSum d f g) Q:=by
 cases d
 ·exact h _ rfl
 ·exact h' _ rfl
theorem Ok.onL {a:α} {f:α→Option κ} {g:β→Option κ} {Q:κ→Prop} (h:Ok (f a) Q):Ok (Lf.onSum (.inl a) f g) Q:=h
theorem Ok.onR {b:β} {f:α→Option κ} {g:β→Option κ} {Q:κ→Prop} (h:Ok (g b) Q):Ok (Lf.onSum (.inr b) f g) Q:=h
def Nx {σ κ:Type} (I:σ→Prop) (Q:κ→Prop):σ⊕κ→Prop
 | .inl z=>I z
 | .inr k=>Q k
theorem iter_ok {B:σ→Option (σ⊕κ)} {Q:κ→Prop} (I:Nat→σ→Prop) (h: ∀ n z,I n z→Ok (B z) (Nx (fun z'=> ∃ m,m<n∧I m z') Q)): ∀ (N n:Nat) (z:σ),n<N→I n z→Ok (iter B N z) Q
 | 0,n,_,hn,_=>by omega
 | N+1,n,z,hn,hz=>by
  obtain ⟨d,hd,hq⟩:=h n z hz
  unfold iter
  rw [hd]
  cases d with
  | inl z'=>
   obtain ⟨m,hm,hi⟩:=hq
   exact iter_ok I h N m z' (by omega) hi
  | inr k=>exact ⟨k,rfl,hq⟩
theorem Ok.loop {B:σ→Option (σ⊕κ)} {Q:κ→Prop} (I:Nat→σ→Prop) (h: ∀ n z,I n z→Ok (B z) (Nx (fun z'=> ∃ m,m<n∧I m z') Q)) (n:Nat) (z:σ) (hn:n<4611686018427387904) (hz:I n z):Ok (loopU B z) Q:=iter_ok I h _ n z hn hz
theorem Ok.range {α:Type} {B:Int×σ→Option ((Int×σ)⊕κ)} {Q:κ→Prop} (l:List α) (hl:l.length<4611686018427387904) (I:Nat→σ→Prop) (hstep: ∀ (i:Nat) x s,l[i]? =Option.some x→I i s→Ok (B ((i:Int),s)) (Nx (fun z=>z.1=((i+1:Nat):Int)∧I (i+1) z.2) Q))
  (hend: ∀ s,I l.length s→Ok (B ((l.length:Int),s)) (Nx (fun _=>False) Q)) {s:σ} (h0:I 0 s):Ok (loopU B ((0:Int),s)) Q:=by
 refine Ok.loop (fun n z=> ∃ i:Nat,i+n=l.length∧z.1=(i:Int)∧I i z.2) (fun n z hz=>?_) l.length (0,s) hl ⟨0,by omega,rfl,h0⟩
 obtain ⟨i,hi,hz1,hz2⟩:=hz
 obtain ⟨z1,z2⟩:=z
 simp only at hz1 hz2
 subst hz1
 by_cases hlt:i<l.length
 ·refine (hstep i l[i] z2 (List.getElem?_eq_getElem hlt) hz2).imp fun d hd=>?_
  cases d with
  | inl z=>exact ⟨n - 1,by omega,i+1,by omega,hd.1,hd.2⟩
  | inr k=>exact hd
 ·have:i=l.length:=by omega
  subst this
  refine (hend z2 hz2).imp fun d hd=>?_
  cases d with
  | inl z=>exact hd.elim
  | inr k=>exact hd
theorem Ok.range0 {α:Type} {B:Int→Option (Int⊕κ)} {Q:κ→Prop} (l:List α) (hl:l.length<4611686018427387904) (I:Nat→Prop) (hstep: ∀ (i:Nat) x,l[i]? =Option.some x→I i→Ok (B (i:Int)) (Nx (fun z=>z=((i+1:Nat):Int)∧I (i+1)) Q))
  (hend:I l.length→Ok (B (l.length:Int)) (Nx (fun _=>False) Q)) (h0:I 0):Ok (loopU B (0:Int)) Q:=by
 refine Ok.loop (fun n z=> ∃ i:Nat,i+n=l.length∧z=(i:Int)∧I i) (fun n z hz=>?_) l.length 0 hl ⟨0,by omega,rfl,h0⟩
 obtain ⟨i,hi,rfl,hz2⟩:=hz
 by_cases hlt:i<l.length
 ·refine (hstep i l[i] (List.getElem?_eq_getElem hlt) hz2).imp fun d hd=>?_
  cases d with
  | inl z=>exact ⟨n - 1,by omega,i+1,by omega,hd.1,hd.2⟩
  | inr k=>exact hd
 ·have:i=l.length:=by omega
  subst this
  refine (hend hz2).imp fun d hd=>?_
  cases d with
  | inl z=>exact hd.elim
  | inr k=>exact hd
theorem Ok.idx {l:List α} {i:Nat} {x:α} {Q:α→Prop} (h:l[i]? =Option.some x) (hq:Q x):Ok (idx l (i:Int)) Q:=⟨x,by rw [idx_nat,h],hq⟩
theorem Ok.app {b:Nat} {l m:List α} {Q:List α→Prop} (h:(l.length+m.length)*b≤140737488355328) (hq:Q (l++m)):Ok (app b l m) Q:=⟨_,app_of h,hq⟩
theorem Ok.idxE {l:List α} {i:Nat} {x:α} (h:l[i]? =Option.some x):Ok (Lf.idx l (i:Int)) (x= ·):=⟨x,by rw [idx_nat,h],rfl⟩
theorem Ok.appE {b:Nat} {l m:List α} (h:(l.length+m.length)*b≤140737488355328):Ok (Lf.app b l m) (· =l++m):=⟨_,app_of h,rfl⟩
theorem Ok.yes {p:Prop} [Decidable p] {x y:Option α} {Q:α→Prop} (hp:p) (h:Ok x Q):Ok (bif decide p then x else y) Q:=by rw [decide_eq_true hp];exact h
theorem Ok.no {p:Prop} [Decidable p] {x y:Option α} {Q:α→Prop} (hp: ¬ p) (h:Ok y Q):Ok (bif decide p then x else y) Q:=by rw [decide_eq_false hp];exact h
theorem Ok.ifs {p:Prop} [Decidable p] {x y:Option α} {Q:α→Prop} (h:p→Ok x Q) (h': ¬ p→Ok y Q):Ok (bif decide p then x else y) Q:=Ok.cond (fun e=>h (of_decide_eq_true e)) fun e=>h' (of_decide_eq_false e)
theorem Ok.inl {z:σ} {I:σ→Prop} {Q:κ→Prop} (h:I z):Ok (Option.some (Sum.inl z:σ⊕κ)) (Nx I Q):=⟨_,rfl,h⟩
theorem Ok.inr {k:κ} {I:σ→Prop} {Q:κ→Prop} (h:Q k):Ok (Option.some (Sum.inr k:σ⊕κ)) (Nx I Q):=⟨_,rfl,h⟩
theorem Ok.ends {x:Option α} {Q:α→Prop} (h:Ok x Q):Ok (x.bind fun r=>Option.some r) Q:=by
 obtain ⟨k,rfl,hk⟩:=h
 exact ⟨k,rfl,hk⟩
theorem Ok.sb {x:α} {f:α→Option β} {Q:β→Prop} (h:Ok (f x) Q):Ok ((Option.some x).bind f) Q:=h
theorem Ok.chk {n:Nat} {i:Int} {Q:Nat→Prop} (h0:0≤i) (h1:i<n) (hq:Q i.toNat):Ok (chk n i) Q:=⟨_,if_pos ⟨h0,h1⟩,hq⟩
theorem Ok.chkE {n i:Nat} (h:i<n):Ok (Lf.chk n (i:Int)) (i= ·):=⟨i,by unfold Lf.chk;rw [if_pos (by omega)];rfl,rfl⟩
theorem Ok.nth {l:List α} {i:Nat} {Q:α→Prop} (h:i<l.length) (hq:Q l[i]):Ok (nth l i) Q:=⟨_,List.getElem?_eq_getElem h,hq⟩
theorem Ok.at_ {l:List α} {i:Int} {Q:α→Prop} (h0:0≤i) (h:i.toNat<l.length) (hq:Q l[i.toNat]):Ok (Lf.idx l i) Q:=⟨_,by unfold Lf.idx;rw [if_pos h0,List.getElem?_eq_getElem h],hq⟩
theorem Ok.sub {l:List α} {a b:Int} {Q:List α→Prop} (h0:0≤a) (h1:a≤b) (h2:b≤l.length) (hq:Q ((l.drop a.toNat).take (b.toNat - a.toNat))):Ok (Lf.sub l a b) Q:=⟨_,if_pos ⟨h0,h1,h2⟩,hq⟩
theorem Ok.nz {b x:Int} {Q:Int→Prop} (h:b≠0) (hq:Q x):Ok (Lf.nz b x) Q:=⟨_,if_neg h,hq⟩
theorem Ok.cat {l m:List UInt8} {Q:List UInt8→Prop} (h:l.length+m.length≤9223372036854775807) (hq:Q (l++m)):Ok (Lf.cat l m) Q:=⟨_,cat_of h,hq⟩
end
end Go.Lf
/- Lines of a table, plainly: that they are laid, and how long they are. -/
namespace Go.Fn
open Go Go.Lf
abbrev Gl:Type:=List UInt8×(Int×((Int×(Int×Unit))×(Int×Unit)))
abbrev Ft:Type:=Int×(List (List Gl)×(List Gl×(Int×(List Gl×Unit))))
def GW (g:Gl):Prop:=1≤g.2.1∧g.2.1≤2
def sumW:List Gl→Int
 | []=>0
 | g::r=>g.2.1+sumW r
theorem sumW_app: ∀ (l m:List Gl),sumW (l++m)=sumW l+sumW m
 | [],m=>by simp [sumW]
 | g::r,m=>by simp only [List.cons_append,sumW,sumW_app r m];omega
theorem sumW_bd: ∀ (l:List Gl),(∀ g∈l,GW g)→(l.length:Int)≤sumW l∧sumW l≤2*l.length
 | [],_=>by simp [sumW]
 | g::r,h=>by
  have h1:=sumW_bd r fun g hg=>h g (List.mem_cons_of_mem _ hg)
  have h2:GW g:=h g List.mem_cons_self
  unfold GW at h2
  simp only [sumW,List.length_cons]
  omega
theorem sumW_take {l:List Gl} {i:Nat} {x:Gl} (h:l[i]? =some x):sumW (l.take (i+1))=sumW (l.take i)+x.2.1:=by
 rw [List.take_add_one,h,sumW_app];simp [sumW]
theorem sumW_drop {l:List Gl} {i:Nat} {x:Gl} (h:l[i]? =some x):sumW (l.drop i)=x.2.1+sumW (l.drop (i+1)):=by
 obtain ⟨h1,h2⟩:=List.getElem?_eq_some_iff.1 h
 rw [List.drop_eq_getElem_cons h1,h2];rfl
theorem lt_len {α:Type} {l:List α} {i:Nat} {x:α} (h:l[i]? =some x):i<l.length:=(List.getElem?_eq_some_iff.1 h).1
theorem mem_at {α:Type} {l:List α} {i:Nat} {x:α} (h:l[i]? =some x):x∈l:=List.mem_of_getElem? h
theorem wide_ok {l:List Gl} (hl:l.length≤1000000000000) (hg: ∀ g∈l,GW g):Ok (table_Wide l) (· =sumW l):=by
 unfold table_Wide
 refine Ok.ends (Ok.range l (by omega) (fun i s=>s=sumW (l.take i)) (fun i x s hx hs=>?_) (fun s hs=>?_) rfl)
 ·have hi:=lt_len hx
  subst hs
  refine Ok.yes (by show (i:Int)<_;omega) (Ok.bind (Ok.idxE hx) fun r hr=>?_)
  subst hr
  have h1:=sumW_bd (l.take i) fun g hg'=>hg g (List.mem_of_mem_take hg')
  have h2:GW x:=hg x (mem_at hx)
  unfold GW at h2
  rw [List.length_take] at h1
  refine Ok.inl ⟨wrapS (by omega),?_⟩
  rw [sumW_take hx]
  exact wrap64 (by omega) (by omega)
 ·refine Ok.no (by show ¬ ((l.length:Int)<_);omega) (Ok.inr ?_)
  rw [hs,List.take_length]
def LW (w:Int) (l:List Gl):Prop:=(∀ g∈l,GW g)∧sumW l≤w
theorem LW.len {w:Int} {l:List Gl} (h:LW w l):(l.length:Int)≤w:=by
 have:=sumW_bd l h.1
 have:=h.2
 omega
theorem LW.nil {w:Int} (h:0≤w):LW w []:=⟨fun _ h=>by simp at h,h⟩
theorem LW.mono {v w:Int} {l:List Gl} (h:LW v l) (hw:v≤w):LW w l:=⟨h.1,Int.le_trans h.2 hw⟩
theorem LW.app {v w:Int} {l m:List Gl} (h:LW v l) (h':LW w m):LW (v+w) (l++m):=by
 refine ⟨fun g hg=>?_,?_⟩
 ·rcases List.mem_append.1 hg with hg | hg
  ·exact h.1 g hg
  ·exact h'.1 g hg
 ·rw [sumW_app]
  have:=h.2
  have:=h'.2
  omega
structure FI (w:Int) (n:Nat) (f:Ft):Prop where
 wd:f.1=w
 lo:1≤w
 hi:w≤200
 out:f.2.1.length≤n
 outs: ∀ l∈f.2.1,LW w l
 line:LW w f.2.2.1
 at_:f.2.2.2.1=sumW f.2.2.1
 ws:f.2.2.2.2.1.length≤1
 w1: ∀ g∈f.2.2.2.2.1,g.2.1=1
theorem FI.mono {w:Int} {n m:Nat} {f:Ft} (h:FI w n f) (hm:n≤m):FI w m f:={ h with out:=Nat.le_trans h.out hm }
theorem FI.noW {w:Int} {n:Nat} {f:Ft} (h:FI w n f) {u:Unit}:FI w n (f.1,(f.2.1,(f.2.2.1,(f.2.2.2.1,([],u))))):={ h with ws:=by simp,w1:=by simp }
theorem FI.pos {w:Int} {n:Nat} {f:Ft} (h:FI w n f):0≤f.2.2.2.1∧f.2.2.2.1≤w:=by
 have h1:=sumW_bd _ h.line.1
 have h2:=h.line.2
 rw [h.at_]
 omega
theorem end_ok {w:Int} {n:Nat} {f:Ft} (h:FI w n f) (hn:n≤1000000000):Ok (table_filler__end f) fun f'=>FI w (n+1) f'∧f'.2.2.1=[]∧f'.2.2.2.2.1=[]:=by
 unfold table_filler__end
 have:=h.out
 refine Ok.bind (Ok.appE (by simp only [List.length_cons,List.length_nil];omega)) fun r hr=>Ok.some ?_
 subst hr
 refine ⟨{ wd:=h.wd,lo:=h.lo,hi:=h.hi,out:=?_,outs:=fun l hl=>?_,line:=LW.nil (by have:=h.lo;omega),at_:=rfl,ws:=by simp,w1:=by simp },rfl,rfl⟩
 ·simp only [List.length_append,List.length_cons,List.length_nil];omega
 ·rcases List.mem_append.1 hl with hl | hl
  ·exact h.outs l hl
  ·rw [List.mem_singleton.1 hl];exact h.line
theorem put_ok {w:Int} {n:Nat} {f:Ft} {g:Gl} (h:FI w n f) (hg:GW g) (hw:f.2.2.2.1+g.2.1≤w):Ok (table_filler__put f g) fun f'=>FI w n f'∧f'.2.2.2.1=f.2.2.2.1+g.2.1∧f'.2.2.2.2.1=f.2.2.2.2.1:=by
 unfold table_filler__put
 have h1:=h.line.len
 have h2:=h.hi
 have h3:=h.pos
 have h4:=hg
 unfold GW at h4
 have e:IntKind.wrap .i64 (f.2.2.2.1+g.2.1)=f.2.2.2.1+g.2.1:=wrap64 (by omega) (by omega)
 refine Ok.bind (Ok.appE (by simp only [List.length_cons,List.length_nil];omega)) fun r hr=>Ok.some ?_
 subst hr
 have hs:sumW (f.2.2.1++[g])=f.2.2.2.1+g.2.1:=by rw [sumW_app,h.at_];simp [sumW]
 refine ⟨{ wd:=h.wd,lo:=h.lo,hi:=h.hi,out:=h.out,outs:=h.outs,line:=⟨fun x hx=>?_,?_⟩,at_:=e.trans hs.symm,ws:=h.ws,w1:=h.w1 },e,rfl⟩
 ·rcases List.mem_append.1 hx with hx | hx
  ·exact h.line.1 x hx
  ·rw [List.mem_singleton.1 hx];exact hg
 ·show sumW (f.2.2.1++[g])≤w
  rw [hs];exact hw
theorem kind_eq (g:Gl):table_kind g=some (if g.1=[32] then 0 else if g.1=[9] then 1 else if g.1=[10] then 2 else 3):=by
 unfold table_kind
 by_cases h1:g.1=[32]
 ·rw [decide_eq_true h1,if_pos h1];rfl
 rw [decide_eq_false h1,if_neg h1]
 by_cases h2:g.1=[9]
 ·rw [decide_eq_true h2,if_pos h2];rfl
 rw [decide_eq_false h2,if_neg h2]
 by_cases h3:g.1=[10]
 ·rw [decide_eq_true h3,if_pos h3];rfl
 rw [decide_eq_false h3,if_neg h3];rfl
def kindV (g:Gl):Int:=if g.1=[32] then 0 else if g.1=[9] then 1 else if g.1=[10] then 2 else 3
theorem kind_ok (g:Gl):Ok (table_kind g) (· =kindV g):=⟨_,kind_eq g,rfl⟩
theorem tabbed_ok {w:Int} {n:Nat} {f:Ft} {g:Gl} (h:FI w n f) (hn:n≤1000000000):Ok (table_filler__tabbed f g) (FI w (n+1)):=by
 unfold table_filler__tabbed
 have h2:=h.hi
 have h3:=h.pos
 have e1:IntKind.wrap .i64 (Int.tdiv f.2.2.2.1 8)=f.2.2.2.1 / 8:=by
  rw [Int.tdiv_eq_ediv_of_nonneg h3.1];exact wrap64 (by omega) (by omega)
 refine Ok.bind (Ok.nz (Q:=(· =f.2.2.2.1 / 8)) (by decide) e1) fun r hr=>?_
 subst hr
 have e2:IntKind.wrap .i64 ((IntKind.wrap .i64 (f.2.2.2.1 / 8+1))*8)=(f.2.2.2.1 / 8+1)*8:=by
  rw [wrap64 (x:=f.2.2.2.1 / 8+1) (by omega) (by omega)];exact wrap64 (by omega) (by omega)
 simp only [e2]
 have hw:=h.wd
 refine Ok.ifs (fun _=>Ok.ends ((end_ok h.noW hn).imp fun f' h'=>h'.1)) fun hlt=>Ok.ends ?_
 rw [hw] at hlt
 refine Ok.loop (fun k z=>z.1.2.1=1∧FI w n z.2∧z.2.2.2.2.1+k=(f.2.2.2.1 / 8+1)*8) (fun k z hz=>?_) ((f.2.2.2.1 / 8+1)*8 - f.2.2.2.1).toNat _ (by omega) ⟨rfl,h.noW,?_⟩
 ·obtain ⟨hz1,hz2,hz3⟩:=hz
  refine Ok.ifs (fun hc=>?_) fun hc=>Ok.inr (hz2.mono (by omega))
  refine Ok.bind (put_ok hz2 (show GW z.1 by unfold GW;omega) (by omega)) fun r hr=>Ok.inl ⟨k - 1,by omega,hz1,hr.1,?_⟩
  have:=hr.2.1
  show r.2.2.2.1+_=_
  omega
 ·show f.2.2.2.1+_=_
  omega
theorem leap_ok {w:Int} {n:Nat} {f:Ft} {g:Gl} (h:FI w n f) (hn:n≤1000000000):Ok (table_filler__leap f g) (FI w (n+1)):=by
 unfold table_filler__leap
 refine Ok.bind (kind_ok g) fun k _=>Ok.ifs (fun _=>Ok.ends (tabbed_ok h hn)) fun _=>Ok.ends ((end_ok h hn).imp fun f' h'=>h'.1)
theorem check_ok {l:List Gl} (hl:l.length≤1000000000000):Ok (table_check l) fun e=>e=0→ ∀ g∈l,kindV g=3→GW g:=by
 unfold table_check
 refine Ok.bind (Q:=Nx (fun _=> ∀ g∈l,kindV g=3→GW g) (fun k=>k=120)) ?_ fun r hr=>?_
 ·refine Ok.range0 l (by omega) (fun i=> ∀ g∈l.take i,kindV g=3→GW g) (fun i x hx hi=>?_) (fun hi=>?_) (by simp)
  ·have hlt:=lt_len hx
   refine Ok.yes (by show (i:Int)<_;omega) (Ok.bind (Ok.idxE hx) fun r hr=>?_)
   subst hr
   refine Ok.bind (Q:=fun b=>b=false→kindV x=3→GW x) (Ok.bind (kind_ok x) fun k hk=>?_) fun b hb=>Ok.cond (fun _=>Ok.inr rfl) fun h=>Ok.inl ⟨wrapS (by omega),fun g hg=>?_⟩
   ·subst hk
    refine Ok.ifs (fun hk=>?_) fun hk=>Ok.some fun _ h=>absurd h hk
    cases he:decide (x.1=[]) with
    | true=>exact Ok.some (by simp)
    | false=>
     refine Ok.ifs (fun h1=>Ok.some fun h2 _=>?_) fun h1=>Ok.some fun _ _=>?_
     ·have:=of_decide_eq_false h2
      unfold GW
      omega
     ·unfold GW
      omega
   ·rw [List.take_add_one,hx] at hg
    rcases List.mem_append.1 hg with hg | hg
    ·exact hi g hg
    ·rw [show g=x by simpa using hg]
     exact hb h
  ·refine Ok.no (by show ¬ ((l.length:Int)<_);omega) (Ok.inr ?_)
   show ∀ g∈l,_
   rw [List.take_length] at hi
   exact hi
 ·cases r with
  | inl u=>exact Ok.some fun _=>hr
  | inr k=>exact Ok.some fun h=>by rw [show k=120 from hr] at h;cases h
theorem word_ok {w:Int} {n:Nat} {f:Ft} {a:List Gl} (h:FI w n f) (ha: ∀ g∈a,GW g∧g.2.1≤w) (hn:n+a.length≤900000000):Ok (table_filler__word f a) fun f'=>FI w (n+a.length+1) f':=by
 unfold table_filler__word
 have h2:=h.hi
 have h3:=h.pos
 have h4:=h.ws
 have hb:=sumW_bd a fun g hg=>(ha g hg).1
 refine Ok.bind (wide_ok (by omega) fun g hg=>(ha g hg).1) fun r hr=>?_
 subst hr
 have e1:IntKind.wrap .i64 (IntKind.wrap .i64 (f.2.2.2.1+((f.2.2.2.2.1.length:Nat):Int))+sumW a)=f.2.2.2.1+f.2.2.2.2.1.length+sumW a:=by
  rw [wrap64 (x:=f.2.2.2.1+((f.2.2.2.2.1.length:Nat):Int)) (by omega) (by omega)];exact wrap64 (by omega) (by omega)
 simp only [e1,h.wd]
 refine Ok.ifs (fun hc=>?_) fun hc=>?_
 ·refine Ok.bind (Ok.appE (by omega)) fun r hr=>?_
  have hr2: ∀ g∈r,GW g:=fun g hg=>by
   rw [hr] at hg
   rcases List.mem_append.1 hg with hg | hg
   ·have:=h.w1 g hg
    unfold GW
    omega
   ·exact (ha g hg).1
  have hs1: ∀ l:List Gl,(∀ g∈l,g.2.1=1)→sumW l=l.length:=fun l=>by
   induction l with
   | nil=>intro _;rfl
   | cons x t ih=>
    intro hx
    simp only [sumW,List.length_cons]
    rw [ih fun g hg=>hx g (List.mem_cons_of_mem _ hg),hx x List.mem_cons_self]
    omega
  have hrs:sumW r=f.2.2.2.2.1.length+sumW a:=by rw [hr,sumW_app,hs1 _ h.w1]
  have hrl:r.length=f.2.2.2.2.1.length+a.length:=by rw [hr,List.length_append]
  refine Ok.bind (Q:=fun f'=> ∃ u,FI w n (f'.1,(f'.2.1,(f'.2.2.1,(f'.2.2.2.1,([],u)))))) ?_ fun f' hf'=>Ok.some ?_
  ·refine Ok.range r (by omega) (fun i s=>s.1=r∧(∃ u,FI w n (s.2.1,(s.2.2.1,(s.2.2.2.1,(s.2.2.2.2.1,([],u))))))∧s.2.2.2.2.1+sumW (r.drop i)≤w) (fun i x s hx hs=>?_) (fun s hs=>?_) ⟨rfl,⟨(),by have:=h.noW (u:=());rw [h.wd] at this;exact this⟩,?_⟩
   ·obtain ⟨hs1,⟨u,hs2⟩,hs3⟩:=hs
    have hlt:=lt_len hx
    refine Ok.yes (by show (i:Int)<_;omega) (Ok.bind (Ok.chkE (i:=i) (by rw [hs1];omega)) fun k hk=>?_)
    subst hk
    refine Ok.bind (Q:=(· =x)) (Ok.of (show nth s.1 i=_ by rw [hs1];exact hx) rfl) fun y hy=>?_
    subst hy
    have hp:=put_ok (g:=y) hs2 (hr2 y (mem_at hx)) (by
     have:=sumW_drop hx
     have:=sumW_bd (r.drop (i+1)) fun g hg=>hr2 g (List.mem_of_mem_drop hg)
     show s.2.2.2.2.1+y.2.1≤w
     omega)
    obtain ⟨f',hf',hq⟩:=hp
    unfold table_filler__put at hf'
    refine Ok.bind (Q:=fun q=>(∃ u,FI w n (q.1,(q.2.1,(q.2.2.1,(q.2.2.2.1,([],u))))))∧q.2.2.2.1=s.2.2.2.2.1+y.2.1) ?_ fun q hq=>Ok.inl ⟨wrapS (by omega),hs1,hq.1,?_⟩
    ·unfold table_filler__putD
     obtain ⟨t,ht,he⟩:=Option.bind_eq_some_iff.1 hf'
     injection he with he
     subst he
     exact Ok.bind (Ok.of ht rfl) fun t' ht'=>Ok.some ⟨⟨_,by subst ht';exact hq.1⟩,hq.2.1⟩
    ·show q.2.2.2.1+sumW (r.drop (i+1))≤w
     rw [hq.2]
     have:=sumW_drop hx
     omega
   ·obtain ⟨hs1,hs2,_⟩:=hs
    exact Ok.no (by show ¬ ((r.length:Int)<_);omega) (Ok.inr hs2)
   ·show f.2.2.2.1+sumW (r.drop 0)≤w
    rw [List.drop_zero,hrs]
    omega
  ·obtain ⟨u,hf'⟩:=hf'
   exact FI.mono hf' (by omega)
 ·refine Ok.bind (Q:=fun f'=>FI w (n+1) f'∧f'.2.2.2.2.1=[]) (Ok.ifs (fun _=>Ok.ends ((end_ok h.noW (by omega)).imp fun f' h'=>⟨h'.1,h'.2.2⟩)) fun _=>Ok.some ⟨h.noW.mono (by omega),rfl⟩) fun f1 hf1=>Ok.ends ?_
  refine Ok.range a (by omega) (fun i s=>FI w (n+1+i) s∧s.2.2.2.2.1=[]) (fun i x s hx hs=>?_) (fun s hs=>?_) hf1
  ·have hlt:=lt_len hx
   refine Ok.yes (by show (i:Int)<_;omega) (Ok.bind (Ok.idxE hx) fun y hy=>?_)
   subst hy
   have hx1:=ha x (mem_at hx)
   have hx2:=hx1.1
   unfold GW at hx2
   have hp:=hs.1.pos
   have ew:IntKind.wrap .i64 (s.2.2.2.1+x.2.1)=s.2.2.2.1+x.2.1:=wrap64 (by omega) (by omega)
   refine Ok.bind (Q:=fun q=>q.2=x∧FI w (n+1+i+1) q.1∧q.1.2.2.2.2.1=[]∧q.1.2.2.2.1+x.2.1≤w) ?_ fun q hq=>?_
   ·refine Ok.ifs (fun _=>Ok.bind (end_ok hs.1 (by omega)) fun f2 hf2=>Ok.some ⟨rfl,hf2.1,hf2.2.2,?_⟩) fun hc=>Ok.some ⟨rfl,hs.1.mono (by omega),hs.2,?_⟩
    ·have:=hf2.1.at_
     rw [hf2.2.1] at this
     show f2.2.2.2.1+x.2.1≤w
     rw [this]
     show 0+x.2.1≤w
     omega
    ·have hw:=hs.1.wd
     have hc: ¬ (s.1<IntKind.wrap .i64 (s.2.2.2.1+x.2.1)):=hc
     rw [ew,hw] at hc
     show s.2.2.2.1+x.2.1≤w
     omega
   ·obtain ⟨hq1,hq2,hq3,hq4⟩:=hq
    refine Ok.bind (put_ok (g:=q.2) hq2 (by rw [hq1];exact hx1.1) (by rw [hq1];exact hq4)) fun f3 hf3=>Ok.inl ⟨wrapS (by omega),FI.mono hf3.1 (by omega),?_⟩
    exact hf3.2.2.trans hq3
  ·exact Ok.no (by show ¬ ((a.length:Int)<_);omega) (Ok.inr (hs.1.mono (by omega)))
theorem fill1_ok {w:Int} {n:Nat} {f:Ft} {a:List Gl} (h:FI w n f) (ha: ∀ g∈a,GW g∧g.2.1≤w) (hn:n+a.length≤900000000):Ok (table_Fill_1 a f) fun r=>r.1=[]∧FI w (n+a.length+1) r.2:=by
 unfold table_Fill_1
 refine Ok.ifs (fun _=>Ok.bind (word_ok h ha hn) fun r hr=>Ok.some ⟨rfl,hr⟩) fun hc=>Ok.some ⟨?_,h.mono (by omega)⟩
 have hc: ¬ ((0:Int)<(a.length:Int)):=hc
 show a=[]
 exact List.eq_nil_of_length_eq_zero (by omega)
theorem fill_ok {l:List Gl} {w:Int} (hl:l.length≤100000000):Ok (table_Fill l w) fun r=>r.1.length≤3*l.length+2∧ ∀ x∈r.1,LW w x∧1≤w∧w≤200:=by
 unfold table_Fill
 refine Ok.bind (Q:=fun b=>b=false→1≤w∧w≤200) ?_ fun b hb=>Ok.cond (fun _=>Ok.some ⟨by simp,by simp⟩) fun h=>?_
 ·cases h1:decide (w<1) with
  | true=>exact Ok.some (by simp)
  | false=>
   have h1:=of_decide_eq_false h1
   exact Ok.some fun h=>⟨by omega,by have:=of_decide_eq_false h;omega⟩
 obtain ⟨hlo,hhi⟩:=hb h
 refine Ok.bind (check_ok (by omega)) fun e he=>Ok.ifs (fun _=>Ok.some ⟨by simp,by simp⟩) fun h0=>?_
 have hg:=he (by omega)
 refine Ok.bind (Q:=fun r=> ∃ n,FI w n r.1∧n+r.2.length≤3*l.length∧ ∀ g∈r.2,GW g∧g.2.1≤w) ?_ fun r hr=>?_
 ·refine Ok.range l (by omega) (fun i s=> ∃ n,FI w n s.2∧n+s.1.length≤3*i∧ ∀ g∈s.1,GW g∧g.2.1≤w) (fun i x s hx hs=>?_) (fun s hs=>?_) ⟨0,⟨rfl,hlo,hhi,by simp,by simp,LW.nil (by omega),rfl,by simp,by simp⟩,by simp,by simp⟩
  ·obtain ⟨n,hs1,hs2,hs3⟩:=hs
   have hlt:=lt_len hx
   refine Ok.yes (by show (i:Int)<_;omega) (Ok.bind (Q:=fun r=> ∃ n,FI w n r.2∧n+r.1.length≤3*(i+1)∧ ∀ g∈r.1,GW g∧g.2.1≤w) ?_ fun r hr=>Ok.inl ⟨wrapS (by omega),hr⟩)
   refine Ok.bind (Ok.idxE hx) fun y hy=>?_
   subst hy
   refine Ok.bind (kind_ok x) fun k hk=>?_
   refine Ok.bind (Q:=Nx (fun q=>q.1=s.1∧q.2.1=s.2) (Nx (fun q:List Gl×Ft=> ∃ n,FI w n q.2∧n+q.1.length≤3*(i+1)∧ ∀ g∈q.1,GW g∧g.2.1≤w) (fun q:List Gl×Ft=> ∃ n,FI w n q.2∧n+q.1.length≤3*(i+1)∧ ∀ g∈q.1,GW g∧g.2.1≤w))) ?_ fun q hq=>?_
   ·refine Ok.ifs (fun h3=>?_) fun h3=>Ok.ifs (fun h4=>?_) fun h4=>Ok.ifs (fun h5=>Ok.inl ⟨rfl,rfl⟩) fun h5=>Ok.ifs (fun h6=>Ok.inl ⟨rfl,rfl⟩) fun h6=>Ok.inr ⟨n,hs1,by show n+s.1.length≤_;omega,hs3⟩
    ·have hgx:=hg x (mem_at hx) (by rw [← hk];exact h3)
     refine Ok.bind (Q:=fun q=>q.1=s.1∧q.2.1=s.2∧GW q.2.2∧q.2.2.2.1≤w) (Ok.ifs (fun _=>Ok.some ⟨rfl,rfl,by unfold GW;simp,hlo⟩) fun hc=>Ok.some ⟨rfl,rfl,hgx,Int.not_lt.1 hc⟩) fun q hq=>?_
     obtain ⟨hq1,hq2,hq3,hq4⟩:=hq
     have hsl:s.1.length≤3*i:=by omega
     refine Ok.bind (Ok.appE (by rw [hq1];simp only [List.length_cons,List.length_nil];omega)) fun t ht=>Ok.inr ⟨n,?_,?_,?_⟩
     ·show FI w n q.2.1
      rw [hq2];exact hs1
     ·show n+t.length≤_
      rw [ht,hq1,List.length_append];simp only [List.length_cons,List.length_nil];omega
     ·show ∀ g∈t,_
      rw [ht,hq1]
      intro g hg
      rcases List.mem_append.1 hg with hg | hg
      ·exact hs3 g hg
      ·rw [List.mem_singleton.1 hg];exact ⟨hq3,hq4⟩
    ·refine Ok.bind (Q:=fun p:List Gl×Ft=> ∃ n,FI w n p.2∧n+p.1.length≤3*(i+1)∧ ∀ g∈p.1,GW g∧g.2.1≤w) ?_ fun p hp=>Ok.inr hp
     refine Ok.bind (fill1_ok (f:=s.2) (a:=s.1) hs1 hs3 (by omega)) fun t ht=>?_
     refine Ok.bind (Q:=fun q=>q.2.1=[]∧q.2.2.1=t.2) ?_ fun q hq=>?_
     ·exact Ok.ifs (fun _=>Ok.some ⟨ht.1,rfl⟩) fun _=>Ok.some ⟨ht.1,rfl⟩
     ·obtain ⟨hq1,hq2⟩:=hq
      refine Ok.cond (fun hc=>Ok.some ⟨n+s.1.length+1,?_,?_,?_⟩) fun _=>Ok.some ⟨n+s.1.length+1,?_,?_,?_⟩
      ·have h9:=ht.2
       rw [← hq2] at h9
       exact { h9 with ws:=by simp,w1:=by intro g hg;rw [List.mem_singleton.1 hg] }
      ·show _+q.2.1.length≤_
       rw [hq1];simp only [List.length_nil];omega
      ·show ∀ g∈q.2.1,_
       rw [hq1];simp
      ·show FI w _ q.2.2.1
       rw [hq2];exact ht.2
      ·show _+q.2.1.length≤_
       rw [hq1];simp only [List.length_nil];omega
      ·show ∀ g∈q.2.1,_
       rw [hq1];simp
   ·cases q with
    | inl a=>
     obtain ⟨ha1,ha2⟩:=hq
     refine Ok.bind (fill1_ok (f:=a.2.1) (a:=a.1) (by rw [ha2];exact hs1) (by rw [ha1];exact hs3) (by rw [ha1];omega)) fun t ht=>?_
     rw [ha1] at ht
     refine Ok.bind (leap_ok ht.2 (by omega)) fun f2 hf2=>Ok.some ⟨_,hf2,?_,?_⟩
     ·show _+t.1.length≤_
      rw [ht.1];simp only [List.length_nil];omega
     ·show ∀ g∈t.1,_
      rw [ht.1];simp
    | inr b=>
     cases b with
     | inl c=>exact Ok.some hq
     | inr c=>exact Ok.some hq
  ·obtain ⟨n,hs1,hs2,hs3⟩:=hs
   exact Ok.no (by show ¬ ((l.length:Int)<_);omega) (Ok.inr ⟨n,hs1,hs2,hs3⟩)
 ·obtain ⟨n,hr1,hr2,hr3⟩:=hr
  refine Ok.bind (fill1_ok hr1 hr3 (by omega)) fun t ht=>?_
  refine Ok.bind (Q:=FI w (3*l.length+2)) (Ok.ifs (fun _=>Ok.ends ((end_ok ht.2 (by omega)).imp fun f' hf'=>hf'.1.mono (by omega))) fun _=>Ok.some (ht.2.mono (by omega))) fun f' hf'=>Ok.some ⟨hf'.out,fun x hx=>⟨hf'.outs x hx,hlo,hhi⟩⟩
end Go.Fn
/- Columns and rows of a table, plainly: that they are laid, and how many lines they have. -/
namespace Go.Fn
open Go Go.Lf
theorem shared_ok {a:List Int} {room fixed free:Int} (hn:1≤a.length) (hl:a.length≤100) (ha: ∀ x∈a,0≤x∧x≤200) (hz:(0:Int)∈a→free≠0) (hr:0≤room):Ok (table_shared a room fixed free) fun r=>r.length=a.length:=by
 unfold table_shared
 refine Ok.bind (Ok.appE (by simp only [List.length_nil];omega)) fun r1 hr1=>?_
 rw [List.nil_append] at hr1
 subst hr1
 refine Ok.ifs (fun _=>Ok.ends ?_) fun _=>?_
 ·refine Ok.range r1 (by omega) (fun i (s:Int×List Int)=>s.2.length=r1.length∧ ∀ j,i≤j→s.2[j]? =r1[j]?) (fun i x s hx hs=>?_) (fun s hs=>?_) ⟨rfl,fun _ _=>rfl⟩
  ·obtain ⟨hs1,hs2⟩:=hs
   have hlt:=lt_len hx
   have hxi:=hs2 i (Nat.le_refl _)
   rw [hx] at hxi
   have hc: ∀ {l:List Int} {Q:Nat→Prop},l.length=r1.length→Q i→Ok (chk l.length (i:Int)) Q:=fun {l Q} hl hq=>Ok.chk (by omega) (by omega) (by rw [show ((i:Int)).toNat=i by omega];exact hq)
   refine Ok.yes (by show (i:Int)<_;omega) (Ok.bind (Q:=fun q:Int×List Int=>q.2.length=r1.length∧ ∀ j,i+1≤j→q.2[j]? =r1[j]?) ?_ fun q hq=>Ok.inl ⟨wrapS (by omega),hq⟩)
   refine Ok.bind (hc (Q:=(· =i)) hs1 rfl) fun k hk=>?_
   subst hk
   refine Ok.bind (Ok.of (k:=x) (Q:=(· =x)) hxi rfl) fun y hy=>?_
   subst hy
   refine Ok.ifs (fun _=>Ok.some ⟨hs1,fun j hj=>hs2 j (by omega)⟩) fun h0=>?_
   have hf:free≠0:=hz (by rw [← Decidable.not_not.1 h0];exact mem_at hx)
   refine Ok.bind (Ok.nz (Q:=fun _=>True) hf trivial) fun v _=>?_
   refine Ok.bind (hc (Q:=(· =k)) hs1 rfl) fun k' hk=>?_
   subst hk
   refine Ok.bind (Ok.of (Q:=fun _=>True) hxi trivial) fun _ _=>?_
   refine Ok.bind (Q:=fun t=>t.length=r1.length∧ ∀ j,k'+1≤j→t[j]? =r1[j]?) ?_ fun t ht=>Ok.some ht
   have hset: ∀ v:Int,(s.2.set k' v).length=r1.length∧ ∀ j,k'+1≤j→(s.2.set k' v)[j]? =r1[j]? :=fun v=>⟨by rw [List.length_set];exact hs1,fun j hj=>by rw [List.getElem?_set_ne (by omega)];exact hs2 j (by omega)⟩
   refine Ok.bind (Ok.nz (Q:=fun _=>True) hf trivial) fun w _=>Ok.ifs (fun _=>?_) fun _=>Ok.some (hset v)
   refine Ok.bind (hc (Q:=(· =k')) (hset v).1 rfl) fun k2 hk=>?_
   subst hk
   refine Ok.bind (Ok.nth (Q:=fun _=>True) (by rw [(hset v).1];omega) trivial) fun _ _=>?_
   refine Ok.bind (hc (Q:=(· =k2)) (hset v).1 rfl) fun k3 hk=>?_
   subst hk
   refine Ok.bind (Ok.nth (Q:=fun _=>True) (by rw [(hset v).1];omega) trivial) fun _ _=>Ok.some ⟨by rw [List.length_set];exact (hset v).1,fun j hj=>by rw [List.getElem?_set_ne (by omega)];exact (hset v).2 j hj⟩
  ·exact Ok.no (by show ¬ ((r1.length:Int)<_);omega) (Ok.inr hs.1)
 ·refine Ok.bind (Q:=fun q:List Int×Int=>q.1.length=r1.length∧q.2≤200*(r1.length:Int)) ?_ fun q hq=>Ok.ends ?_
  ·refine Ok.range r1 (by omega) (fun i (s:List Int×Int)=>(s.1.length=r1.length∧ ∀ j,i≤j→s.1[j]? =r1[j]?)∧0≤s.2∧s.2≤200*(i:Int)) (fun i x s hx hs=>?_) (fun s hs=>?_) ⟨⟨rfl,fun _ _=>rfl⟩,by show (0:Int)≤0;omega,by show (0:Int)≤_;omega⟩
   ·obtain ⟨⟨hs1,hs2⟩,hs3,hs4⟩:=hs
    have hlt:=lt_len hx
    have hxi:=hs2 i (Nat.le_refl _)
    rw [hx] at hxi
    have hxb:=ha x (mem_at hx)
    have hc: ∀ {l:List Int} {Q:Nat→Prop},l.length=r1.length→Q i→Ok (chk l.length (i:Int)) Q:=fun {l Q} hl hq=>Ok.chk (by omega) (by omega) (by rw [show ((i:Int)).toNat=i by omega];exact hq)
    refine Ok.yes (by show (i:Int)<_;omega) (Ok.bind (hc (Q:=(· =i)) hs1 rfl) fun k hk=>?_)
    subst hk
    refine Ok.bind (Ok.of (k:=x) (Q:=(· =x)) hxi rfl) fun y hy=>?_
    subst hy
    refine Ok.bind (hc (Q:=(· =k)) hs1 rfl) fun k2 hk=>?_
    subst hk
    refine Ok.bind (Ok.of (Q:=fun _=>True) hxi trivial) fun _ _=>?_
    have hset:(s.1.set k2 (max y 1)).length=r1.length∧ ∀ j,k2+1≤j→(s.1.set k2 (max y 1))[j]? =r1[j]? :=⟨by rw [List.length_set];exact hs1,fun j hj=>by rw [List.getElem?_set_ne (by omega)];exact hs2 j (by omega)⟩
    refine Ok.bind (hc (Q:=(· =k2)) hset.1 rfl) fun k3 hk=>?_
    subst hk
    refine Ok.bind (Ok.nth (Q:=(· =max y 1)) (by rw [hset.1];omega) (by simp)) fun m hm=>Ok.inl ⟨wrapS (by omega),hset,?_,?_⟩
    ·show 0≤IntKind.wrap .i64 (s.2+m)
     rw [hm,wrap64 (by omega) (by omega)]
     omega
    ·show IntKind.wrap .i64 (s.2+m)≤_
     rw [hm,wrap64 (by omega) (by omega)]
     omega
   ·exact Ok.no (by show ¬ ((r1.length:Int)<_);omega) (Ok.inr ⟨hs.1.1,hs.2.2⟩)
  ·refine Ok.loop (fun k (z:List Int×Int)=>z.1.length=r1.length∧z.2≤200*(r1.length:Int)∧k=(z.2 - room).toNat) (fun k z hz=>?_) (q.2 - room).toNat _ (by omega) ⟨hq.1,hq.2,rfl⟩
   obtain ⟨hz1,hz2,hz3⟩:=hz
   refine Ok.ifs (fun hc=>?_) fun _=>Ok.inr hz1
   refine Ok.bind (Q:=fun q:List Int×Int=>q.1.length=r1.length∧0≤q.2∧q.2<(r1.length:Int)) ?_ fun q hq=>?_
   ·refine Ok.range z.1 (by omega) (fun i (s:Int×List Int)=>s.2=z.1∧0≤s.1∧s.1<(r1.length:Int)) (fun i x s hx hs=>?_) (fun s hs=>?_) ⟨rfl,by show (0:Int)≤0;omega,by show (0:Int)<_;omega⟩
    ·obtain ⟨hs1,hs2,hs3⟩:=hs
     have hlt:=lt_len hx
     refine Ok.yes (by show (i:Int)<_;omega) (Ok.bind (Q:=fun t:Int×List Int=>t.2=z.1∧0≤t.1∧t.1<(r1.length:Int)) ?_ fun t ht=>Ok.inl ⟨wrapS (by omega),ht⟩)
     refine Ok.bind (Ok.chk (Q:=fun k=>k<s.2.length) (by show (0:Int)≤(i:Int);omega) (by show (i:Int)<_;rw [hs1];omega) (by show ((i:Int)).toNat<_;rw [hs1];omega)) fun k hk=>?_
     refine Ok.bind (Ok.nth (Q:=fun _=>True) hk trivial) fun _ _=>?_
     refine Ok.bind (Ok.chk (Q:=fun k=>k<s.2.length) hs2 (by rw [hs1,hz1];exact hs3) (by show s.1.toNat<_;rw [hs1,hz1];omega)) fun k2 hk2=>?_
     refine Ok.bind (Ok.nth (Q:=fun _=>True) hk2 trivial) fun _ _=>Ok.ifs (fun _=>Ok.some ⟨hs1,by show (0:Int)≤(i:Int);omega,by show (i:Int)<_;omega⟩) fun _=>Ok.some ⟨hs1,hs2,hs3⟩
    ·exact Ok.no (by show ¬ ((z.1.length:Int)<_);omega) (Ok.inr ⟨by show s.2.length=_;rw [hs.1];exact hz1,hs.2.1,hs.2.2⟩)
   ·obtain ⟨hq1,hq2,hq3⟩:=hq
    refine Ok.bind (Ok.chk (Q:=fun k=>k<q.1.length) hq2 (by rw [hq1];exact hq3) (by rw [hq1];omega)) fun k hk=>?_
    refine Ok.bind (Ok.nth (Q:=fun _=>True) hk trivial) fun _ _=>?_
    refine Ok.bind (Ok.chk (Q:=fun k=>k<q.1.length) hq2 (by rw [hq1];exact hq3) (by rw [hq1];omega)) fun k hk=>?_
    refine Ok.bind (Ok.nth (Q:=fun _=>True) hk trivial) fun _ _=>?_
    have e:IntKind.wrap .i64 (z.2 - 1)=z.2 - 1:=wrap64 (by omega) (by omega)
    refine Ok.inl ⟨(z.2 - 1 - room).toNat,by omega,?_,?_,?_⟩
    ·show (List.set _ _ _).length=_
     rw [List.length_set];exact hq1
    ·show IntKind.wrap .i64 (z.2 - 1)≤_
     rw [e];omega
    ·show _=(IntKind.wrap .i64 (z.2 - 1) - room).toNat
     rw [e]
theorem columns_total (a:List Int) (wide:Int):Ok (table_Columns a wide) fun _=>True:=by
 unfold table_Columns
 refine Ok.bind (Q:=fun b=>b=false→(10≤wide∧wide≤200)∧1≤a.length∧a.length≤8) ?_ fun b hb=>Ok.cond (fun _=>Ok.some trivial) fun h=>?_
 ·cases h1:decide (wide<10) with
  | true=>exact Ok.some (by simp)
  | false=>
   cases h2:decide (200<wide) with
   | true=>exact Ok.some (by simp)
   | false=>
    cases h3:decide (((a.length:Nat):Int)<1) with
    | true=>exact Ok.some (by simp)
    | false=>
     have h1:=of_decide_eq_false h1
     have h2:=of_decide_eq_false h2
     have h3:=of_decide_eq_false h3
     exact Ok.some fun h=>by
      have:=of_decide_eq_false h
      omega
 obtain ⟨⟨hlo,hhi⟩,hn1,hn8⟩:=hb h
 refine Ok.bind (Q:=Nx (fun q:Int×Int=>(∀ x∈a,0≤x∧x≤200)∧((0:Int)∈a→q.1≠0)) (fun _=>True)) ?_ fun r hr=>?_
 ·refine Ok.range a (by omega) (fun i (s:Int×Int)=>(∀ x∈a.take i,0≤x∧x≤200)∧(0≤s.1∧s.1≤(i:Int))∧((0:Int)∈a.take i→1≤s.1)) (fun i x s hx hs=>?_) (fun s hs=>?_) ⟨by simp,by simp,by simp⟩
  ·obtain ⟨hs1,hs2,hs3⟩:=hs
   have hlt:=lt_len hx
   have htk:a.take (i+1)=a.take i++[x]:=by rw [List.take_add_one,hx];rfl
   refine Ok.yes (by show (i:Int)<_;omega) (Ok.bind (Q:=Nx (fun _=>True) fun q:Int×Int=>(∀ x∈a.take (i+1),0≤x∧x≤200)∧(0≤q.1∧q.1≤(i+1:Nat))∧((0:Int)∈a.take (i+1)→1≤q.1)) ?_ fun q hq=>?_)
   ·refine Ok.bind (Ok.idxE hx) fun y hy=>?_
    subst hy
    refine Ok.bind (Q:=fun b=>b=false→0≤x∧x≤200) ?_ fun b hb=>Ok.cond (fun _=>Ok.inl trivial) fun h=>?_
    ·cases h1:decide (x<0) with
     | true=>exact Ok.some (by simp)
     | false=>
      have h1:=of_decide_eq_false h1
      exact Ok.some fun h=>⟨by omega,by have:=of_decide_eq_false h;omega⟩
    ·have hb:=hb h
     have hall: ∀ y∈a.take (i+1),0≤y∧y≤200:=fun y hy=>by
      rw [htk] at hy
      rcases List.mem_append.1 hy with hy | hy
      ·exact hs1 y hy
      ·rw [List.mem_singleton.1 hy];exact hb
     refine Ok.ifs (fun h0=>Ok.inr ⟨hall,?_,fun _=>?_⟩) fun h0=>Ok.inr ⟨hall,?_,fun hm=>?_⟩
     ·show 0≤IntKind.wrap .i64 (s.1+1)∧IntKind.wrap .i64 (s.1+1)≤_
      rw [wrap64 (by omega) (by omega)];omega
     ·show 1≤IntKind.wrap .i64 (s.1+1)
      rw [wrap64 (by omega) (by omega)];omega
     ·show 0≤s.1∧s.1≤_
      omega
     ·rw [htk] at hm
      rcases List.mem_append.1 hm with hm | hm
      ·exact hs3 hm
      ·exact absurd (List.mem_singleton.1 hm).symm h0
   ·cases q with
    | inl _=>exact Ok.inr trivial
    | inr q=>exact Ok.inl ⟨wrapS (by omega),hq⟩
  ·obtain ⟨hs1,hs2,hs3⟩:=hs
   rw [List.take_length] at hs1 hs3
   exact Ok.no (by show ¬ ((a.length:Int)<_);omega) (Ok.inr ⟨hs1,fun h=>by have:=hs3 h;show s.1≠0;omega⟩)
 ·cases r with
  | inr _=>exact Ok.some trivial
  | inl q=>
   obtain ⟨hq1,hq2⟩:=hr
   refine Ok.bind (Q:=fun g:Int=>0≤g∧g≤1) (Ok.ifs (fun _=>Ok.some (by omega)) fun _=>Ok.some (by omega)) fun g hg=>?_
   have e1:IntKind.wrap .i64 (((a.length:Nat):Int) - 1)=a.length - 1:=wrap64 (by omega) (by omega)
   have e0:0≤g*((a.length:Int) - 1)∧g*((a.length:Int) - 1)≤7:=by
    rcases (show g=0∨g=1 by omega) with rfl | rfl<;>omega
   have e2:IntKind.wrap .i64 (g*(((a.length:Nat):Int) - 1))=g*((a.length:Int) - 1):=wrap64 (by omega) (by omega)
   simp only [e1,e2]
   refine Ok.bind (shared_ok hn1 (by omega) hq1 hq2 (by rw [wrap64 (by omega) (by omega)];omega)) fun r hr=>?_
   refine Ok.bind (Q:=fun _=>True) ?_ fun _ _=>Ok.some trivial
   refine Ok.range r (by omega) (fun i (s:Int×List (Int×(Int×Unit)))=>s.2.length=i) (fun i x s hx hs=>?_) (fun s hs=>?_) rfl
   ·have hlt:=lt_len hx
    refine Ok.yes (by show (i:Int)<_;omega) (Ok.bind (Ok.idxE hx) fun y _=>Ok.bind (Ok.appE (by show (s.2.length+_)*_≤_;simp only [List.length_cons,List.length_nil];omega)) fun t ht=>Ok.inl ⟨wrapS (by omega),?_⟩)
    show t.length=i+1
    rw [ht,List.length_append,hs];rfl
   ·exact Ok.no (by show ¬ ((r.length:Int)<_);omega) (Ok.inr trivial)
theorem columns_ok {l:List (Int×(Int×Unit))} (hl:l.length≤100):Ok (table_columns l) fun e=>e=0→ ∀ c∈l,0≤c.1∧c.1≤200:=by
 unfold table_columns
 refine Ok.bind (Q:=Nx (fun _=> ∀ c∈l,0≤c.1∧c.1≤200) (fun k=>k=1)) ?_ fun r hr=>?_
 ·refine Ok.range l (by omega) (fun i (s:Int)=>(0≤s∧s≤200)∧ ∀ c∈l.take i,0≤c.1∧c.1≤200) (fun i x s hx hs=>?_) (fun s hs=>?_) ⟨by omega,by simp⟩
  ·obtain ⟨hs1,hs2⟩:=hs
   have hlt:=lt_len hx
   refine Ok.yes (by show (i:Int)<_;omega) (Ok.bind (Ok.idxE hx) fun y hy=>?_)
   subst hy
   refine Ok.bind (Q:=fun b:Bool×(Int×(Int×Unit))=>b.2=x∧(b.1=false→0≤x.1∧1≤x.2.1∧x.2.1≤200∧x.1≤200 - x.2.1)) ?_ fun b hb=>?_
   ·cases h1:decide (x.1<s) with
    | true=>exact Ok.some (by simp)
    | false=>
     cases h2:decide (x.2.1<1) with
     | true=>exact Ok.some (by simp)
     | false=>
      cases h3:decide (200<x.2.1) with
      | true=>exact Ok.some (by simp)
      | false=>
       have h1:=of_decide_eq_false h1
       have h2:=of_decide_eq_false h2
       have h3:=of_decide_eq_false h3
       refine Ok.some ⟨rfl,fun h=>?_⟩
       have h4:=of_decide_eq_false h
       rw [wrap64 (by omega) (by omega)] at h4
       omega
   ·obtain ⟨hb1,hb2⟩:=hb
    refine Ok.cond (fun _=>Ok.inr rfl) fun h=>Ok.inl ⟨wrapS (by omega),?_,fun c hc=>?_⟩
    ·have hb2:=hb2 h
     show 0≤IntKind.wrap .i64 (b.2.1+b.2.2.1)∧IntKind.wrap .i64 (b.2.1+b.2.2.1)≤200
     rw [hb1,wrap64 (by omega) (by omega)]
     omega
    ·have hb2:=hb2 h
     rw [List.take_add_one,hx] at hc
     rcases List.mem_append.1 hc with hc | hc
     ·exact hs2 c hc
     ·rw [show c=x by simpa using hc];omega
  ·have h2:=hs.2
   rw [List.take_length] at h2
   exact Ok.no (by show ¬ ((l.length:Int)<_);omega) (Ok.inr h2)
 ·cases r with
  | inl u=>exact Ok.some fun _=>hr
  | inr k=>exact Ok.some fun h=>by rw [show k=1 from hr] at h;cases h
theorem plain_ok:Ok table_plain fun g=>g.2.1=1:=⟨_,rfl,rfl⟩
theorem row_ok {cols:List (Int×(Int×Unit))} {flows:List (List Gl)} {B:Nat} (hB:B≤100000000) (hf: ∀ f∈flows,f.length≤B):Ok (table_Row cols flows) fun r=>r.1.length≤3*B+2∧ ∀ x∈r.1,LW 4000 x:=by
 unfold table_Row
 refine Ok.bind (Q:=fun b=>b=false→cols.length=flows.length∧cols.length≤8) ?_ fun b hb=>Ok.cond (fun _=>Ok.some ⟨by simp,by simp⟩) fun h=>?_
 ·cases h1:decide (((cols.length:Nat):Int)≠((flows.length:Nat):Int)) with
  | true=>exact Ok.some (by simp)
  | false=>
   cases h2:decide (((cols.length:Nat):Int)<1) with
   | true=>exact Ok.some (by simp)
   | false=>
    have h1:=of_decide_eq_false h1
    exact Ok.some fun h=>by
     have:=of_decide_eq_false h
     omega
 obtain ⟨hn,hn8⟩:=hb h
 refine Ok.bind (columns_ok (by omega)) fun e he=>Ok.ifs (fun _=>Ok.some ⟨by simp,by simp⟩) fun h0=>?_
 have hcol:=he (by omega)
 refine Ok.bind (Q:=Nx (fun q:List (List (List Gl))×Int=>q.1.length=flows.length∧(∀ c∈q.1, ∀ x∈c,LW 200 x)∧0≤q.2∧q.2≤3*(B:Int)+2) (fun q:List (List Gl)×Int=>q.1=[])) ?_ fun r hr=>?_
 ·refine Ok.range flows (by omega) (fun i (s:Int×List (List (List Gl)))=>s.2.length=i∧(∀ c∈s.2, ∀ x∈c,LW 200 x)∧0≤s.1∧s.1≤3*(B:Int)+2) (fun i x s hx hs=>?_) (fun s hs=>?_) ⟨rfl,by simp,by show (0:Int)≤0;omega,by show (0:Int)≤_;omega⟩
  ·obtain ⟨hs1,hs2,hs3,hs4⟩:=hs
   have hlt:=lt_len hx
   refine Ok.yes (by show (i:Int)<_;omega) (Ok.bind (Ok.idxE hx) fun y hy=>?_)
   subst hy
   refine Ok.bind (Ok.at_ (Q:=fun _=>True) (by show (0:Int)≤(i:Int);omega) (by show ((i:Int)).toNat<_;omega) trivial) fun c _=>?_
   have hxl:=hf x (mem_at hx)
   refine Ok.bind (fill_ok (by omega)) fun q hq=>Ok.ifs (fun _=>Ok.inr rfl) fun _=>?_
   refine Ok.bind (Ok.appE (by show (s.2.length+_)*_≤_;simp only [List.length_cons,List.length_nil];omega)) fun t ht=>Ok.inl ⟨wrapS (by omega),?_,?_,?_,?_⟩
   ·show t.length=i+1
    rw [ht,List.length_append,hs1];rfl
   ·show ∀ c∈t,_
    rw [ht]
    intro c hc
    rcases List.mem_append.1 hc with hc | hc
    ·exact hs2 c hc
    ·rw [List.mem_singleton.1 hc]
     exact fun y hy=>(hq.2 y hy).1.mono (hq.2 y hy).2.2
   ·show 0≤max s.1 _
    omega
   ·show max s.1 ((q.1.length:Nat):Int)≤_
    have:=hq.1
    omega
  ·exact Ok.no (by show ¬ ((flows.length:Int)<_);omega) (Ok.inr ⟨hs.1,hs.2.1,hs.2.2.1,hs.2.2.2⟩)
 ·cases r with
  | inr q=>exact Ok.some ⟨by show q.1.length≤_;rw [show q.1=[] from hr];simp,by show ∀ x∈q.1,_;rw [show q.1=[] from hr];simp⟩
  | inl q=>
   obtain ⟨hq1,hq2,hq3,hq4⟩:=hr
   refine Ok.bind (Q:=fun r=>r.length≤3*B+2∧ ∀ x∈r,LW 4000 x) ?_ fun r hr=>Ok.some hr
   refine Ok.loop (fun k (z:Int×(List (List Gl)×List (List (List Gl))))=>(0≤z.1∧z.1+(k:Int)=q.2)∧z.2.2=q.1∧(z.2.1.length:Int)=z.1∧ ∀ x∈z.2.1,LW 4000 x) (fun k z hz=>?_) q.2.toNat _ (by omega) ⟨⟨by show (0:Int)≤0;omega,by show (0:Int)+_=_;omega⟩,rfl,rfl,by simp⟩
   obtain ⟨⟨hz1,hz2⟩,hz3,hz4,hz5⟩:=hz
   refine Ok.ifs (fun hc=>?_) fun hc=>Ok.inr ⟨by show z.2.1.length≤_;omega,hz5⟩
   refine Ok.bind (Q:=fun t:List (List (List Gl))×(List Gl×List (List Gl))=>t.1=q.1∧LW 4000 t.2.1∧t.2.2=z.2.1) ?_ fun t ht=>?_
   ·refine Ok.range z.2.2 (by rw [hz3];omega) (fun i (s:Int×(List Gl×(List (List (List Gl))×List (List Gl))))=>(0≤s.1∧s.1≤200+200*(i:Int))∧LW s.1 s.2.1∧s.2.2.1=q.1∧s.2.2.2=z.2.1) (fun i x s hx hs=>?_) (fun s hs=>?_) ⟨⟨by show (0:Int)≤0;omega,by show (0:Int)≤_;omega⟩,LW.nil (by show (0:Int)≤0;omega),hz3,rfl⟩
    ·obtain ⟨⟨hs1,hs2⟩,hs3,hs4,hs5⟩:=hs
     have hlt:=lt_len hx
     rw [hz3] at hlt
     have hxm:x∈q.1:=by rw [← hz3];exact mem_at hx
     have hi8:i<8:=by omega
     refine Ok.yes (by show (i:Int)<_;rw [hz3];omega) (Ok.bind (Q:=fun s:Int×(List Gl×(List (List (List Gl))×List (List Gl)))=>(0≤s.1∧s.1≤200+200*((i+1:Nat):Int))∧LW s.1 s.2.1∧s.2.2.1=q.1∧s.2.2.2=z.2.1) ?_ fun t ht=>Ok.inl ⟨wrapS (by omega),ht⟩)
     refine Ok.bind (Ok.idxE hx) fun y hy=>?_
     subst hy
     refine Ok.ifs (fun _=>Ok.some ⟨⟨hs1,?_⟩,hs3,hs4,hs5⟩) fun hrow=>?_
     ·show s.1≤_
      omega
     have hci:i<cols.length:=by omega
     have hcb:=hcol cols[i] (List.getElem_mem hci)
     have hcx:cols[i]? =some cols[i]:=List.getElem?_eq_getElem hci
     refine Ok.bind (Q:=fun t:List (List (List Gl))×(List (List Gl)×(Int×List Gl))=>t.1=q.1∧t.2.1=z.2.1∧(0≤t.2.2.1∧t.2.2.1≤200+200*(i:Int))∧LW t.2.2.1 t.2.2.2) ?_ fun t ht=>?_
     ·refine Ok.loop (fun k (u:Int×(List Gl×(List (List (List Gl))×List (List Gl))))=>k=(cols[i].1 - u.1).toNat∧(0≤u.1∧u.1≤200+200*(i:Int))∧LW u.1 u.2.1∧u.2.2.1=q.1∧u.2.2.2=z.2.1) (fun k u hu=>?_) (cols[i].1 - s.1).toNat _ (by omega) ⟨rfl,⟨hs1,hs2⟩,hs3,hs4,hs5⟩
      obtain ⟨hu1,hu2,hu3,hu4,hu5⟩:=hu
      refine Ok.bind (Ok.idx (Q:=(· =cols[i])) hcx rfl) fun c hc=>?_
      subst hc
      refine Ok.ifs (fun hc=>?_) fun _=>Ok.inr ⟨hu4,hu5,hu2,hu3⟩
      refine Ok.bind plain_ok fun g hg=>?_
      have hul:=hu3.len
      have e:IntKind.wrap .i64 (u.1+1)=u.1+1:=wrap64 (by omega) (by omega)
      refine Ok.bind (Ok.appE (by show (u.2.1.length+_)*_≤_;simp only [List.length_cons,List.length_nil];omega)) fun l hl=>Ok.inl ⟨k - 1,by omega,?_,?_,?_,hu4,hu5⟩
      ·show _=(_ - IntKind.wrap .i64 (u.1+1)).toNat
       rw [e];omega
      ·show 0≤IntKind.wrap .i64 (u.1+1)∧IntKind.wrap .i64 (u.1+1)≤_
       rw [e];omega
      ·show LW (IntKind.wrap .i64 (u.1+1)) l
       rw [e,hl]
       refine hu3.app ⟨fun x hx=>?_,?_⟩
       ·rw [List.mem_singleton.1 hx];unfold GW;omega
       ·simp [sumW,hg]
     ·obtain ⟨ht1,ht2,ht3,ht4⟩:=ht
      have hrl:z.1.toNat<x.length:=by omega
      refine Ok.bind (Ok.at_ (Q:=(· =x[z.1.toNat])) hz1 hrl rfl) fun ln hln=>?_
      have hlw:LW 200 ln:=by rw [hln];exact hq2 x hxm _ (List.getElem_mem hrl)
      have h1:=ht4.len
      have h2:=hlw.len
      have h3:=sumW_bd ln hlw.1
      have h4:=hlw.2
      refine Ok.bind (Ok.appE (by omega)) fun l hl=>?_
      refine Ok.bind (Ok.at_ (Q:=(· =x[z.1.toNat])) hz1 hrl rfl) fun ln2 hln2=>?_
      rw [← hln] at hln2
      subst hln2
      refine Ok.bind (wide_ok (by omega) hlw.1) fun n hn=>?_
      subst hn
      have e:IntKind.wrap .i64 (t.2.2.1+sumW ln2)=t.2.2.1+sumW ln2:=wrap64 (by omega) (by omega)
      refine Ok.some ⟨?_,?_,ht1,ht2⟩
      ·show 0≤IntKind.wrap .i64 (t.2.2.1+sumW ln2)∧IntKind.wrap .i64 (t.2.2.1+sumW ln2)≤_
       rw [e];omega
      ·show LW (IntKind.wrap .i64 (t.2.2.1+sumW ln2)) l
       rw [e,hl]
       exact ht4.app ⟨hlw.1,Int.le_refl _⟩
    ·rw [hz3] at hs
     exact Ok.no (by show ¬ ((z.2.2.length:Int)<_);omega) (Ok.inr ⟨hs.2.2.1,hs.2.1.mono (by omega),hs.2.2.2⟩)
   ·obtain ⟨ht1,ht2,ht3⟩:=ht
    have e:IntKind.wrap .i64 (z.1+1)=z.1+1:=wrap64 (by omega) (by omega)
    refine Ok.bind (Ok.appE (by rw [ht3];simp only [List.length_cons,List.length_nil];omega)) fun l hl=>Ok.inl ⟨k - 1,by omega,⟨?_,?_⟩,ht1,?_,?_⟩
    ·show 0≤IntKind.wrap .i64 (z.1+1)
     rw [e];omega
    ·show IntKind.wrap .i64 (z.1+1)+_=_
     rw [e];omega
    ·show (l.length:Int)=IntKind.wrap .i64 (z.1+1)
     rw [e,hl,List.length_append,ht3];simp only [List.length_cons,List.length_nil];omega
    ·show ∀ x∈l,_
     rw [hl,ht3]
     intro x hx
     rcases List.mem_append.1 hx with hx | hx
     ·exact hz5 x hx
     ·rw [List.mem_singleton.1 hx];exact ht2
end Go.Fn
open Go Go.Lf
set_option maxRecDepth 10000
namespace Go.Fn
noncomputable def text_Width_rRun:Lf.RunS:=⟨⟨70,Tys,[],[],[],[],[],TysEq,[],some 4000,TysIm,[]⟩,(Go.Proofs.Tryz.f145.body).getD .skip, .seq .no (.seq (.join (.more .ret ⟨[],[],[(2, .int .i64)],[],[]⟩ (.one .nrm ⟨[0],[],[],[],[]⟩)) (.seq (.join (.more .nrm ⟨[0],[],[],[],[]⟩ (.one (.ext 0) ⟨[0],[],[],[],[]⟩)) (.seq (.seq (.seq (.join (.one .nrm ⟨[0],[],[(6, .bool)],[],[]⟩) .no) .no) (.seq (.seq (.join (.one .nrm ⟨[0],[],[(13, .bool)],[],[]⟩) .no) .no) (.seq (.seq (.join (.one .nrm ⟨[0],[],[(20, .bool)],[],[]⟩) .no) .no) (.seq (.seq (.join (.one .nrm ⟨[0],[],[(27, .bool)],[],[]⟩) .no) .no) (.seq (.join (.one .nrm ⟨[0],[],[(34, .bool)],[],[]⟩) .no) .no))))) .no)) .no)) (.seq .no (.seq (.seq .no (.loop ⟨[0,55],[],[(56, .int .i64)],[],[]⟩ (.more .ret ⟨[],[],[(2, .int .i64)],[],[]⟩ (.one (.ext 6) ⟨[],[],[],[],[]⟩)) (.seq .no (.seq .no (.seq (.seq .no (.seq (.join (.one .nrm ⟨[0,55,56],[],[(68, .bool)],[],[]⟩) .no) .no)) .no))))) .no))),[.val (.int .i32)],[(.int .i64)],[.tmp 2]⟩
noncomputable def text_Width_r:=text_Width_rRun.F
noncomputable def text_Width_rEnt:Nat×Lf.Entry:=(145,⟨[.val (.int .i32)],[(.int .i64)],text_Width_r⟩)
theorem text_Width_r_ok:Lf.EntryOk Go.Proofs.Tryz.prog GG 145 text_Width_rEnt.2:=Lf.run_ok text_Width_rRun Go.Proofs.Tryz.f145 (by kernel_rfl) ⟨Tys_ok,Lf.FnsOk.look .nil,Lf.IpsOk.look .nil,TysEq_ok,TysIm_ok,Lf.IvsOk.look .nil,Lf.FxsOk.look .nil⟩ (by kernel_rfl) (by kernel_rfl) (by kernel_rfl) (by kernel_rfl) (by kernel_rfl) (by kernel_rfl) (by kernel_rfl)
end Go.Fn
/- text.Width, run with a bound on its rounds. -/
namespace Go.Fn
open Go Go.Lf
noncomputable def text_Width (a0:Int):Option Int:=text_Width_r a0
noncomputable def text_WidthEnt:Nat×Entry:=(145,⟨[.val (.int .i32)],[.int .i64],fun z=>text_Width z⟩)
theorem text_Width_ok:EntryOk Go.Proofs.Tryz.prog GG 145 text_WidthEnt.2:=text_Width_r_ok
end Go.Fn
open Go Go.Lf
set_option maxRecDepth 10000
namespace Go.Fn
noncomputable def text_CellsCtx:Lf.Ctx:=⟨61,Tys,[utf8_DecodeEnt,text_WidthEnt],[],[],[(3,(.mr 193 (.st (.pr .str xY1))))],[],TysEq,[],some 4611686018427387904,TysIm,[]⟩
noncomputable def text_CellsCode:Go.Code:=(Go.Proofs.Tryz.f116.body).getD .skip
def text_CellsAnn:Lf.Ann:=(.seq .no (.seq .no (.seq (.seq .no (.loop ⟨[0],[],[(4,(.int .i64)),(3,(.mr 193 (.st (.pr .str xY1))))],[],[]⟩ (.one (.ext 0) ⟨[],[],[(3,(.mr 193 (.st (.pr .str xY1))))],[],[]⟩) (.seq .no (.seq .no (.seq .no (.seq (.join (.one .nrm ⟨[0,6,4],[],[(3,(.mr 193 (.st (.pr .str xY1))))],[],[]⟩) (.seq (.join (.one .nrm ⟨[0,6,4,7],[],[(27, .bool),(3,(.mr 193 (.st (.pr .str xY1))))],[],[]⟩) .no) (.cnd (.draw 16) .no))) .no)))))) .no)))
noncomputable def text_Cells (a0:List (UInt8)):Option (List xT6):=
 (Lf.loopU (σ:=(Int)×(List xT6)) (κ:=List xT6) (fun z1=>
   bif (decide (z1.1<(((List.length a0):Nat):Int))) then ((Lf.sub a0 z1.1 (((List.length a0):Nat):Int))).bind fun r2=>
   ((Go.Fn.utf8_Decode r2)).bind fun r3=>
   ((Go.Fn.text_Width r3.1)).bind fun r4=>
   ((bif (decide ((r4:Int)=(0:Int))) then some ((decide ((0:Int)<(((List.length z1.2):Nat):Int))),z1.2)
     else some (false,z1.2)).bind fun r5=>
    bif r5.1 then ((Lf.chk (List.length r5.2) (Go.IntKind.wrap .i64 ((((List.length r5.2):Nat):Int) - (1:Int))))).bind fun r6=>
    ((Lf.nth r5.2 r6)).bind fun r7=>
    ((Lf.sub a0 z1.1 (Go.IntKind.wrap .i64 (z1.1+r3.2)))).bind fun r8=>
    ((Lf.cat r7.1 r8)).bind fun r9=>
    ((Lf.chk (List.length r5.2) (Go.IntKind.wrap .i64 ((((List.length r5.2):Nat):Int) - (1:Int))))).bind fun r10=>
    ((Lf.nth r5.2 r10)).bind fun r11=>
    some (List.set r5.2 r10 (r9,r11.2))
    else ((Lf.sub a0 z1.1 (Go.IntKind.wrap .i64 (z1.1+r3.2)))).bind fun r12=>
    ((Lf.app (32:Nat) r5.2 ((r12,(z1.1,((Max.max r4 (1:Int)),())))::([]:List xT6)))).bind fun r13=>
    some r13).bind fun r14=>
   some (.inl ((Go.IntKind.wrap .i64 (z1.1+r3.2)),r14))
   else some (.inr z1.2)) ((0:Int),([]:List xT6)):Option (List xT6)).bind fun r15=>
 some r15
theorem text_Cells_eq (a0:List (UInt8)):Lf.fnE text_CellsCtx text_CellsCode text_CellsAnn [.val .str] [(.sl (.st (.pr .str xY1)))] [.tmp 2] (a0)=text_Cells a0:=by kernel_rfl
noncomputable def text_CellsEnt:Nat×Lf.Entry:=(116,⟨[.val .str],[(.sl (.st (.pr .str xY1)))],fun z=>text_Cells z⟩)
theorem text_Cells_ok:Lf.EntryOk Go.Proofs.Tryz.prog GG 116 text_CellsEnt.2:=
 Lf.fn_ok (c:=text_CellsCtx) (code:=text_CellsCode) (an:=text_CellsAnn) (slots:=[.tmp 2]) (fn:=Go.Proofs.Tryz.f116) (by kernel_rfl) ⟨Tys_ok,Lf.FnsOk.look (.con utf8_Decode_ok (.con text_Width_ok .nil)),Lf.IpsOk.look .nil,TysEq_ok,TysIm_ok,Lf.IvsOk.look .nil,Lf.FxsOk.look .nil⟩ (by kernel_rfl) (by kernel_rfl) (by kernel_rfl) (by kernel_rfl) (by kernel_rfl) (Nat.le_of_ble_eq_true rfl) (by simp [Lf.Ty.top]) (by simp [Lf.Ty.top]) fun z r h=>(text_Cells_eq z).trans h
noncomputable def vm_Machine__glyphsCtx:Lf.Ctx:=⟨34,Tys,[vm_Machine__topEnt,text_CellsEnt],[17],[],[(17,(.rw 78 (.st xY42)))],[],TysEq,[],some 4611686018427387904,TysIm,[]⟩
noncomputable def vm_Machine__glyphsCode:Go.Code:=(Go.Proofs.Tryz.f75.body).getD .skip
def vm_Machine__glyphsAnn:Lf.Ann:=(.seq .no (.loop ⟨[7,8],[(0, .ref 0 [] 0)],[(9,(.int .i64))],[(0,86,(.st xY197))],[]⟩ (.one (.ext 0) ⟨[],[(0, .ref 0 [] 0)],[],[(0,86,(.st xY197))],[]⟩) (.seq .no (.seq .no (.seq (.seq .no (.soup 17)) .no)))))
noncomputable def vm_Machine__glyphs (a0:(Int)×(xT3×xT171)) (a1:List (UInt8)):Option ((Int)×(xT3×xT171)):=
 ((Go.Fn.text_Cells a1)).bind fun r1=>
 (Lf.loopU (σ:=(Int)×((Int)×(xT3×xT171))) (κ:=(Int)×(xT3×xT171)) (fun z2=>
   bif (decide (z2.1<(((List.length r1):Nat):Int))) then ((Lf.idx r1 z2.1)).bind fun r3=>
   ((Go.Fn.vm_Machine__top z2.2)).bind fun r4=>
   ((Lf.app (48:Nat) z2.2.2.2.2.2.2.2.2.2.2.2.2.1 ((r3.1,(r3.2.2.1,(r4,(z2.2.2.2.2.2.2.2.2.2.2.2.2.2.2.2.2.2.2.2.2.2.1,()))))::([]:List xT25)))).bind fun r5=>
   some (.inl ((Go.IntKind.wrap .i64 (z2.1+(1:Int))),(z2.2.1,(z2.2.2.1,(z2.2.2.2.1,(z2.2.2.2.2.1,(z2.2.2.2.2.2.1,(z2.2.2.2.2.2.2.1,(z2.2.2.2.2.2.2.2.1,(z2.2.2.2.2.2.2.2.2.1,(z2.2.2.2.2.2.2.2.2.2.1,(z2.2.2.2.2.2.2.2.2.2.2.1,(z2.2.2.2.2.2.2.2.2.2.2.2.1,(r5,z2.2.2.2.2.2.2.2.2.2.2.2.2.2))))))))))))))
   else some (.inr z2.2)) ((0:Int),a0):Option ((Int)×(xT3×xT171))).bind fun r6=>
 some r6
theorem vm_Machine__glyphs_eq (a0:(Int)×(xT3×xT171)) (a1:List (UInt8)):Lf.fnE vm_Machine__glyphsCtx vm_Machine__glyphsCode vm_Machine__glyphsAnn [.obj 86 (.st xY197) (.st xY197) [], .val .str] [] [] (a0,a1)=vm_Machine__glyphs a0 a1:=by kernel_rfl
noncomputable def vm_Machine__glyphsEnt:Nat×Lf.Entry:=(75,⟨[.obj 86 (.st xY197) (.st xY197) [], .val .str],[],fun z=>vm_Machine__glyphs z.1 z.2⟩)
theorem vm_Machine__glyphs_ok:Lf.EntryOk Go.Proofs.Tryz.prog GG 75 vm_Machine__glyphsEnt.2:=
 Lf.fn_ok (c:=vm_Machine__glyphsCtx) (code:=vm_Machine__glyphsCode) (an:=vm_Machine__glyphsAnn) (slots:=[]) (fn:=Go.Proofs.Tryz.f75) (by kernel_rfl) ⟨Tys_ok,Lf.FnsOk.look (.con vm_Machine__top_ok (.con text_Cells_ok .nil)),Lf.IpsOk.look .nil,TysEq_ok,TysIm_ok,Lf.IvsOk.look .nil,Lf.FxsOk.look .nil⟩ (by kernel_rfl) (by kernel_rfl) (by kernel_rfl) (by kernel_rfl) (by kernel_rfl) (Nat.le_of_ble_eq_true rfl) (by simp [Lf.Ty.top]) (by simp [Lf.Ty.top]) fun z r h=>(vm_Machine__glyphs_eq z.1 z.2).trans h
noncomputable def vm_Machine__inlineCtx:Lf.Ctx:=⟨126,Tys,[vm_Machine__glyphsEnt,vm_Machine__topEnt,vm_Machine__pushEnt,vm_Machine__styledEnt,vm_Machine__popEnt],[45,61,96],[],[(45,(.rw 78 (.st xY42))),(61,(.rw 78 (.st xY42))),(96,(.rw 80 (.st xY1)))],[],TysEq,[],some 4611686018427387904,TysIm,[]⟩
noncomputable def vm_Machine__inlineCode:Go.Code:=(Go.Proofs.Tryz.f41.body).getD .skip
def vm_Machine__inlineAnn:Lf.Ann:=(.seq .no (.seq .no (.seq (.seq (.join (.more .nrm ⟨[],[(0, .ref 0 [] 0),(3, .ref 3 [] 0)],[],[(0,86,(.st xY197)),(3,64,xY44)],[]⟩ (.more (.ext 7) ⟨[],[(0, .ref 0 [] 0)],[],[(0,86,(.st xY197))],[]⟩ (.one (.ext 0) ⟨[],[(0, .ref 0 [] 0)],[],[(0,86,(.st xY197))],[]⟩))) (.seq (.seq (.seq (.seq .no (.seq (.seq (.draw 8) (.draw 10)) .no)) (.seq (.soup 13) .no)) (.seq (.soup 13) .no)) (.seq (.draw 11) .no))) (.seq (.seq .no (.seq (.join (.one .nrm ⟨[],[(0, .ref 0 [] 0),(3, .ref 3 [] 0),(4, .ref 4 [] 0)],[],[(0,86,(.st xY197)),(3,64,xY44),(4,80,(.st xY1))],[]⟩) .no) (.seq (.soup 7) (.seq .no (.draw 7))))) .no)) (.seq (.join (.one .nrm ⟨[],[(0, .ref 0 [] 0)],[],[(0,86,(.st xY197))],[]⟩) .no) .no))))
noncomputable def vm_Machine__inline (a0:(Int)×(xT3×xT171)) (a1:(Int)×((Int)×xT4)):Option ((Int)×(xT3×xT171)):=
 (bif (decide ((a1.2.2.1:Int)=(1:Int))) then ((Lf.sub a0.2.2.2.1 (0:Int) a1.2.2.2.1)).bind fun r1=>
  ((Go.Fn.vm_Machine__glyphs a0 r1)).bind fun r2=>
  ((Lf.sub r2.2.2.2.1 a1.2.2.2.1 (((List.length r2.2.2.2.1):Nat):Int))).bind fun r3=>
  some (.inr (.inr (Lf.u3 r2 (r3,r2.2.2.2.2))))
  else bif (decide ((a1.2.2.1:Int)=(6:Int))) then ((Go.Fn.vm_Machine__top a0)).bind fun r4=>
  ((Lf.app (48:Nat) a0.2.2.2.2.2.2.2.2.2.2.2.1 ((((9:UInt8)::([]:List (UInt8))),((1:Int),(r4,(a0.2.2.2.2.2.2.2.2.2.2.2.2.2.2.2.2.2.2.2.2.1,()))))::([]:List xT25)))).bind fun r5=>
  some (.inr (.inr (Lf.u11 a0 (r5,a0.2.2.2.2.2.2.2.2.2.2.2.2))))
  else bif (decide ((a1.2.2.1:Int)=(7:Int))) then ((Go.Fn.vm_Machine__top a0)).bind fun r6=>
  ((Lf.app (48:Nat) a0.2.2.2.2.2.2.2.2.2.2.2.1 ((((10:UInt8)::([]:List (UInt8))),((1:Int),(r6,(a0.2.2.2.2.2.2.2.2.2.2.2.2.2.2.2.2.2.2.2.2.1,()))))::([]:List xT25)))).bind fun r7=>
  some (.inr (.inr (Lf.u11 a0 (r7,a0.2.2.2.2.2.2.2.2.2.2.2.2))))
  else bif (decide ((a1.2.2.1:Int)=(2:Int))) then ((Go.Fn.vm_Machine__top a0)).bind fun r8=>
  ((Go.Fn.vm_Machine__styled a0 r8 a1.2.2.2.1)).bind fun r9=>
  ((Go.Fn.vm_Machine__push a0 a1.2.2.1 a1.2.2.2.1 r9)).bind fun r10=>
  some (.inr (.inr r10))
  else bif (decide ((a1.2.2.1:Int)=(3:Int))) then some (.inl (a0,a1))
  else bif (decide ((a1.2.2.1:Int)=(4:Int))) then some (.inl (a0,a1))
  else bif (decide ((a1.2.2.1:Int)=(5:Int))) then some (.inr (.inl a0))
  else some (.inr (.inr a0)):Option ((((Int)×(xT3×xT171))×((Int)×((Int)×xT4)))⊕(((Int)×(xT3×xT171))⊕((Int)×(xT3×xT171))))).bind fun r11=>
 Lf.onSum r11 (fun a12=>
 (bif (decide ((a12.2.2.2.1:Int)=(4:Int))) then some (a12.1,(a12.2,((1:Int),(a12.2.2.2.2.1,()))))
  else some (a12.1,(a12.2,((0:Int),(a12.2.2.2.2.1,()))))).bind fun r13=>
 ((Lf.app (16:Nat) r13.1.2.2.2.2.2.2.2.2.2.2.2.2.2.2.2.2.2.2.2.2.2.1 (r13.2.2::([]:List ((Int)×((Int)×(Unit))))))).bind fun r14=>
 ((Go.Fn.vm_Machine__top (Lf.u20 r13.1 ((((List.length r14):Nat):Int),(r14,r13.1.2.2.2.2.2.2.2.2.2.2.2.2.2.2.2.2.2.2.2.2.2.2))))).bind fun r15=>
 ((Go.Fn.vm_Machine__push (Lf.u20 r13.1 ((((List.length r14):Nat):Int),(r14,r13.1.2.2.2.2.2.2.2.2.2.2.2.2.2.2.2.2.2.2.2.2.2.2))) r13.2.1.2.2.1 r13.2.1.2.2.2.1 r15)).bind fun r16=>
 some r16) (fun b17=>
 Lf.onSum b17 (fun a18=>
 (((Go.Fn.vm_Machine__pop a18)).bind fun r19=>
  bif (decide ((r19.1.1:Int)≠(2:Int))) then some (Lf.u20 r19.2 ((0:Int),r19.2.2.2.2.2.2.2.2.2.2.2.2.2.2.2.2.2.2.2.2.2.2))
  else some r19.2).bind fun r20=>
 some r20) (fun b21=>
 some b21))
theorem vm_Machine__inline_eq (a0:(Int)×(xT3×xT171)) (a1:(Int)×((Int)×xT4)):Lf.fnE vm_Machine__inlineCtx vm_Machine__inlineCode vm_Machine__inlineAnn [.obj 86 (.st xY197) (.st xY197) [], .val xY44] [] [] (a0,a1)=vm_Machine__inline a0 a1:=by kernel_rfl
noncomputable def vm_Machine__inlineEnt:Nat×Lf.Entry:=(41,⟨[.obj 86 (.st xY197) (.st xY197) [], .val xY44],[],fun z=>vm_Machine__inline z.1 z.2⟩)
theorem vm_Machine__inline_ok:Lf.EntryOk Go.Proofs.Tryz.prog GG 41 vm_Machine__inlineEnt.2:=
 Lf.fn_ok (c:=vm_Machine__inlineCtx) (code:=vm_Machine__inlineCode) (an:=vm_Machine__inlineAnn) (slots:=[]) (fn:=Go.Proofs.Tryz.f41) (by kernel_rfl) ⟨Tys_ok,Lf.FnsOk.look (.con vm_Machine__glyphs_ok (.con vm_Machine__top_ok (.con vm_Machine__push_ok (.con vm_Machine__styled_ok (.con vm_Machine__pop_ok .nil))))),Lf.IpsOk.look .nil,TysEq_ok,TysIm_ok,Lf.IvsOk.look .nil,Lf.FxsOk.look .nil⟩ (by kernel_rfl) (by kernel_rfl) (by kernel_rfl) (by kernel_rfl) (by kernel_rfl) (Nat.le_of_ble_eq_true rfl) (by simp [Lf.Ty.top]) (by simp [Lf.Ty.top]) fun z r h=>(vm_Machine__inline_eq z.1 z.2).trans h
noncomputable def vm_Machine__StepCtx:Lf.Ctx:=⟨55,Tys,[vm_Machine__isEnt,vm_Machine__inlineEnt,vm_Machine__blockEnt],[],[],[],[],TysEq,[],some 4611686018427387904,TysIm,[]⟩
noncomputable def vm_Machine__StepCode:Go.Code:=(Go.Proofs.Tryz.f16.body).getD .skip
def vm_Machine__StepAnn:Lf.Ann:=(.seq .no (.seq .no (.seq (.soup 11) .no)))
noncomputable def vm_Machine__Step (a0:(Int)×(xT3×xT171)):Option ((Int)×((Int)×(xT3×xT171))):=
 ((Go.Fn.vm_Machine__is a0)).bind fun r1=>
 bif (!r1) then some ((182:Int),a0)
 else bif a0.2.2.2.2.2.2.2.1 then some ((180:Int),a0)
 else ((Lf.idx a0.2.2.1 a0.2.2.2.2.2.1)).bind fun r2=>
 bif (decide ((r2.2.2.1:Int)=(15:Int))) then some ((0:Int),(a0.1,(a0.2.1,(a0.2.2.1,(a0.2.2.2.1,(a0.2.2.2.2.1,(a0.2.2.2.2.2.1,((Go.IntKind.wrap .i64 (a0.2.2.2.2.2.2.1+(1:Int))),(true,a0.2.2.2.2.2.2.2.2)))))))))
 else ((Go.Fn.vm_Machine__inline (Lf.u5 a0 ((Go.IntKind.wrap .i64 (a0.2.2.2.2.2.1+(1:Int))),((Go.IntKind.wrap .i64 (a0.2.2.2.2.2.2.1+(1:Int))),a0.2.2.2.2.2.2.2))) r2)).bind fun r3=>
 ((Go.Fn.vm_Machine__block r3 r2)).bind fun r4=>
 some ((0:Int),(r4.1,(r4.2.1,(r4.2.2.1,(r4.2.2.2.1,(r4.2.2.2.2.1,(r4.2.2.2.2.2.1,(r4.2.2.2.2.2.2.1,(r4.2.2.2.2.2.2.2.1,(r4.2.2.2.2.2.2.2.2.1,(r4.2.2.2.2.2.2.2.2.2.1,(r4.2.2.2.2.2.2.2.2.2.2.1,(r4.2.2.2.2.2.2.2.2.2.2.2.1,(r4.2.2.2.2.2.2.2.2.2.2.2.2.1,(r4.2.2.2.2.2.2.2.2.2.2.2.2.2.1,(r4.2.2.2.2.2.2.2.2.2.2.2.2.2.2.1,(r4.2.2.2.2.2.2.2.2.2.2.2.2.2.2.2.1,(r4.2.2.2.2.2.2.2.2.2.2.2.2.2.2.2.2.1,(r4.2.2.2.2.2.2.2.2.2.2.2.2.2.2.2.2.2.1,(r4.2.2.2.2.2.2.2.2.2.2.2.2.2.2.2.2.2.2.1,((decide ((r2.2.2.1:Int)=(9:Int))),r4.2.2.2.2.2.2.2.2.2.2.2.2.2.2.2.2.2.2.2.2)))))))))))))))))))))
theorem vm_Machine__Step_eq (a0:(Int)×(xT3×xT171)):Lf.fnE vm_Machine__StepCtx vm_Machine__StepCode vm_Machine__StepAnn [.obj 86 (.st xY197) (.st xY197) []] [(.int .i64)] [.tmp 2] (a0)=vm_Machine__Step a0:=by kernel_rfl
noncomputable def vm_Machine__StepEnt:Nat×Lf.Entry:=(16,⟨[.obj 86 (.st xY197) (.st xY197) []],[(.int .i64)],fun z=>vm_Machine__Step z⟩)
theorem vm_Machine__Step_ok:Lf.EntryOk Go.Proofs.Tryz.prog GG 16 vm_Machine__StepEnt.2:=
 Lf.fn_ok (c:=vm_Machine__StepCtx) (code:=vm_Machine__StepCode) (an:=vm_Machine__StepAnn) (slots:=[.tmp 2]) (fn:=Go.Proofs.Tryz.f16) (by kernel_rfl) ⟨Tys_ok,Lf.FnsOk.look (.con vm_Machine__is_ok (.con vm_Machine__inline_ok (.con vm_Machine__block_ok .nil))),Lf.IpsOk.look .nil,TysEq_ok,TysIm_ok,Lf.IvsOk.look .nil,Lf.FxsOk.look .nil⟩ (by kernel_rfl) (by kernel_rfl) (by kernel_rfl) (by kernel_rfl) (by kernel_rfl) (Nat.le_of_ble_eq_true rfl) (by simp [Lf.Ty.top]) (by simp [Lf.Ty.top]) fun z r h=>(vm_Machine__Step_eq z).trans h
noncomputable def vm_runCtx:Lf.Ctx:=⟨17,Tys,[vm_Machine__StepEnt],[],[],[],[],TysEq,[],some 4611686018427387904,TysIm,[]⟩
noncomputable def vm_runCode:Go.Code:=(Go.Proofs.Tryz.f59.body).getD .skip
def vm_runAnn:Lf.Ann:=(.seq .no (.seq .no (.seq (.loop ⟨[1],[(0, .clo 16 1 [(false,0,[],0)])],[(5,(.int .i64))],[(0,86,(.st xY197))],[]⟩ (.one (.ext 0) ⟨[],[(0, .clo 16 1 [(false,0,[],0)])],[(5,(.int .i64))],[(0,86,(.st xY197))],[]⟩) (.seq (.seq (.join (.one .nrm ⟨[1,5],[(0, .clo 16 1 [(false,0,[],0)])],[(13, .bool)],[(0,86,(.st xY197))],[]⟩) .no) .no) .no)) .no)))
noncomputable def vm_run (a0:(Int)×(xT3×xT171)) (a1:Int):Option ((Int)×((Int)×(xT3×xT171))):=
 (Lf.loopU (σ:=(Int)×((Int)×(xT3×xT171))) (κ:=(Int)×((Int)×(xT3×xT171))) (fun z1=>
   (bif (decide (z1.1<a1)) then ((Go.Fn.vm_Machine__Step z1.2)).bind fun r2=>
    some ((decide ((r2.1:Int)=(0:Int))),r2.2)
    else some (false,z1.2)).bind fun r3=>
   bif r3.1 then some (.inl ((Go.IntKind.wrap .i64 (z1.1+(1:Int))),r3.2))
   else some (.inr (z1.1,r3.2))) ((0:Int),a0):Option ((Int)×((Int)×(xT3×xT171)))).bind fun r4=>
 some r4
theorem vm_run_eq (a0:(Int)×(xT3×xT171)) (a1:Int):Lf.fnE vm_runCtx vm_runCode vm_runAnn [.obj 86 (.st xY197) (.st xY197) [] (.bnd 16), .val (.int .i64)] [(.int .i64)] [.tmp 4] (a0,a1)=vm_run a0 a1:=by kernel_rfl
noncomputable def vm_runEnt:Nat×Lf.Entry:=(59,⟨[.obj 86 (.st xY197) (.st xY197) [] (.bnd 16), .val (.int .i64)],[(.int .i64)],fun z=>vm_run z.1 z.2⟩)
theorem vm_run_ok:Lf.EntryOk Go.Proofs.Tryz.prog GG 59 vm_runEnt.2:=
 Lf.fn_ok (c:=vm_runCtx) (code:=vm_runCode) (an:=vm_runAnn) (slots:=[.tmp 4]) (fn:=Go.Proofs.Tryz.f59) (by kernel_rfl) ⟨Tys_ok,Lf.FnsOk.look (.con vm_Machine__Step_ok .nil),Lf.IpsOk.look .nil,TysEq_ok,TysIm_ok,Lf.IvsOk.look .nil,Lf.FxsOk.look .nil⟩ (by kernel_rfl) (by kernel_rfl) (by kernel_rfl) (by kernel_rfl) (by kernel_rfl) (Nat.le_of_ble_eq_true rfl) (by simp [Lf.Ty.top]) (by simp [Lf.Ty.top]) fun z r h=>(vm_run_eq z.1 z.2).trans h
noncomputable def vm_Machine__RunCtx:Lf.Ctx:=⟨9,Tys,[vm_Machine__StepEnt,vm_runEnt],[],[],[],[],TysEq,[],some 4611686018427387904,TysIm,[]⟩
noncomputable def vm_Machine__RunCode:Go.Code:=(Go.Proofs.Tryz.f28.body).getD .skip
def vm_Machine__RunAnn:Lf.Ann:= .no
noncomputable def vm_Machine__Run (a0:(Int)×(xT3×xT171)) (a1:Int):Option ((Int)×((Int)×(xT3×xT171))):=
 ((Go.Fn.vm_run a0 a1)).bind fun r1=>
 some r1
theorem vm_Machine__Run_eq (a0:(Int)×(xT3×xT171)) (a1:Int):Lf.fnE vm_Machine__RunCtx vm_Machine__RunCode vm_Machine__RunAnn [.obj 86 (.st xY197) (.st xY197) [], .val (.int .i64)] [(.int .i64)] [.tmp 4] (a0,a1)=vm_Machine__Run a0 a1:=by kernel_rfl
noncomputable def vm_Machine__RunEnt:Nat×Lf.Entry:=(28,⟨[.obj 86 (.st xY197) (.st xY197) [], .val (.int .i64)],[(.int .i64)],fun z=>vm_Machine__Run z.1 z.2⟩)
theorem vm_Machine__Run_ok:Lf.EntryOk Go.Proofs.Tryz.prog GG 28 vm_Machine__RunEnt.2:=
 Lf.fn_ok (c:=vm_Machine__RunCtx) (code:=vm_Machine__RunCode) (an:=vm_Machine__RunAnn) (slots:=[.tmp 4]) (fn:=Go.Proofs.Tryz.f28) (by kernel_rfl) ⟨Tys_ok,Lf.FnsOk.look (.con vm_Machine__Step_ok (.con vm_run_ok .nil)),Lf.IpsOk.look .nil,TysEq_ok,TysIm_ok,Lf.IvsOk.look .nil,Lf.FxsOk.look .nil⟩ (by kernel_rfl) (by kernel_rfl) (by kernel_rfl) (by kernel_rfl) (by kernel_rfl) (Nat.le_of_ble_eq_true rfl) (by simp [Lf.Ty.top]) (by simp [Lf.Ty.top]) fun z r h=>(vm_Machine__Run_eq z.1 z.2).trans h
end Go.Fn
/- text.Width, plainly. -/
namespace Go.Fn
open Go Go.Lf
def wideL:List (Int×(Int×Unit)):=[(4352,(4447,())),(11904,(12350,())),(12353,(13311,())),(13312,(19903,())),(19968,(42191,())),(44032,(55203,())),(63744,(64255,())),(65072,(65135,())),(65280,(65376,())),(65504,(65510,())),(127744,(128591,())),(129280,(129535,())),(131072,(262141,()))]
noncomputable def widthF (a0:Int):Option Int:=
 ((((bif (decide ((0:Int)≤a0)) then some (decide (a0<(32:Int)))
  else some false).bind fun r1=>
 bif r1 then some (.inl ())
 else (bif (decide ((127:Int)≤a0)) then some (decide (a0≤(159:Int)))
  else some false).bind fun r2=>
 bif r2 then some (.inl ())
 else (bif (decide ((768:Int)≤a0)) then some (decide (a0≤(879:Int)))
  else some false).bind fun r3=>
 bif r3 then some (.inl ())
 else (bif (decide ((8203:Int)≤a0)) then some (decide (a0≤(8205:Int)))
  else some false).bind fun r4=>
 bif r4 then some (.inl ())
 else (bif (decide ((65024:Int)≤a0)) then some (decide (a0≤(65039:Int)))
  else some false).bind fun r5=>
 bif r5 then some (.inl ())
 else some (.inr ()):Option (Unit⊕Unit)).bind fun r=>
 onSum r (fun _=>some (.inl (0:Int))) (fun _=>some (.inr ())):Option (Int⊕Unit))).bind fun r=>
 onSum r (fun a=>some a) fun _=>
 (iter (σ:=Int) (κ:=Int⊕Unit) (fun z=>
   bif (decide (z<(13:Int))) then ((Go.Lf.idx wideL z)).bind fun r=>
   (bif (decide (r.1≤a0)) then some (decide (a0≤r.2.1))
    else some false).bind fun b=>
   bif b then some (.inr (.inl (2:Int)))
   else some (.inl (Go.IntKind.wrap .i64 (z+(1:Int))))
   else some (.inr (.inr ()))) 4000 (0:Int)).bind fun r=>
 onSum r (fun a=>some a) (fun _=>some (1:Int))
theorem width_eq (a0:Int):text_Width a0=widthF a0:=by kernel_rfl
end Go.Fn
open Go Go.Lf
set_option maxRecDepth 10000
namespace Go.Fn
noncomputable def octet_NewCtx:Lf.Ctx:=⟨16,Tys,[],[],[],[(6,(.mr 5 (.int .u8))),(7,(.st xY17))],[],TysEq,[],some 4611686018427387904,TysIm,[]⟩
noncomputable def octet_NewCode:Go.Code:=(Go.Proofs.Tryz.f100.body).getD .skip
def octet_NewAnn:Lf.Ann:= .no
noncomputable def octet_New (a0:List (Int)):Option xT5:=
 ((Lf.made (1:Nat) (0:Int) (((List.length a0):Nat):Int) (((List.length a0):Nat):Int))).bind fun r1=>
 some ((List.append (List.take (List.length r1) a0) (List.drop (List.length a0) r1)),((0:Int),((0:Int),())))
theorem octet_New_eq (a0:List (Int)):Lf.fnE octet_NewCtx octet_NewCode octet_NewAnn [.val (.sl (.int .u8))] [(.bx 216 (.st xY17))] [.tmp 2] (a0)=octet_New a0:=by kernel_rfl
noncomputable def octet_NewEnt:Nat×Lf.Entry:=(100,⟨[.val (.sl (.int .u8))],[(.bx 216 (.st xY17))],fun z=>octet_New z⟩)
theorem octet_New_ok:Lf.EntryOk Go.Proofs.Tryz.prog GG 100 octet_NewEnt.2:=
 Lf.fn_ok (c:=octet_NewCtx) (code:=octet_NewCode) (an:=octet_NewAnn) (slots:=[.tmp 2]) (fn:=Go.Proofs.Tryz.f100) (by kernel_rfl) ⟨Tys_ok,Lf.FnsOk.look .nil,Lf.IpsOk.look .nil,TysEq_ok,TysIm_ok,Lf.IvsOk.look .nil,Lf.FxsOk.look .nil⟩ (by kernel_rfl) (by kernel_rfl) (by kernel_rfl) (by kernel_rfl) (by kernel_rfl) (Nat.le_of_ble_eq_true rfl) (by simp [Lf.Ty.top]) (by simp [Lf.Ty.top]) fun z r h=>(octet_New_eq z).trans h
noncomputable def octet_Cursor__ErrCtx:Lf.Ctx:=⟨9,Tys,[],[],[],[],[],TysEq,[],some 4611686018427387904,TysIm,[]⟩
noncomputable def octet_Cursor__ErrCode:Go.Code:=(Go.Proofs.Tryz.f102.body).getD .skip
def octet_Cursor__ErrAnn:Lf.Ann:= .no
noncomputable def octet_Cursor__Err (a0:(List (Int))×((Int)×((Int)×(Unit)))):Option ((Int)×xT5):=
 some (a0.2.2.1,a0)
theorem octet_Cursor__Err_eq (a0:(List (Int))×((Int)×((Int)×(Unit)))):Lf.fnE octet_Cursor__ErrCtx octet_Cursor__ErrCode octet_Cursor__ErrAnn [.obj 216 (.st xY17) (.st xY17) []] [(.int .i64)] [.tmp 2] (a0)=octet_Cursor__Err a0:=by kernel_rfl
noncomputable def octet_Cursor__ErrEnt:Nat×Lf.Entry:=(102,⟨[.obj 216 (.st xY17) (.st xY17) []],[(.int .i64)],fun z=>octet_Cursor__Err z⟩)
theorem octet_Cursor__Err_ok:Lf.EntryOk Go.Proofs.Tryz.prog GG 102 octet_Cursor__ErrEnt.2:=
 Lf.fn_ok (c:=octet_Cursor__ErrCtx) (code:=octet_Cursor__ErrCode) (an:=octet_Cursor__ErrAnn) (slots:=[.tmp 2]) (fn:=Go.Proofs.Tryz.f102) (by kernel_rfl) ⟨Tys_ok,Lf.FnsOk.look .nil,Lf.IpsOk.look .nil,TysEq_ok,TysIm_ok,Lf.IvsOk.look .nil,Lf.FxsOk.look .nil⟩ (by kernel_rfl) (by kernel_rfl) (by kernel_rfl) (by kernel_rfl) (by kernel_rfl) (Nat.le_of_ble_eq_true rfl) (by simp [Lf.Ty.top]) (by simp [Lf.Ty.top]) fun z r h=>(octet_Cursor__Err_eq z).trans h
noncomputable def octet_Cursor__fineCtx:Lf.Ctx:=⟨6,Tys,[octet_Cursor__ErrEnt],[],[],[],[],TysEq,[],some 4611686018427387904,TysIm,[]⟩
noncomputable def octet_Cursor__fineCode:Go.Code:=(Go.Proofs.Tryz.f134.body).getD .skip
def octet_Cursor__fineAnn:Lf.Ann:= .no
noncomputable def octet_Cursor__fine (a0:(List (Int))×((Int)×((Int)×(Unit)))):Option ((Bool)×xT5):=
 ((Go.Fn.octet_Cursor__Err a0)).bind fun r1=>
 some ((decide ((r1.1:Int)=(0:Int))),r1.2)
theorem octet_Cursor__fine_eq (a0:(List (Int))×((Int)×((Int)×(Unit)))):Lf.fnE octet_Cursor__fineCtx octet_Cursor__fineCode octet_Cursor__fineAnn [.obj 216 (.st xY17) (.st xY17) []] [.bool] [.tmp 2] (a0)=octet_Cursor__fine a0:=by kernel_rfl
noncomputable def octet_Cursor__fineEnt:Nat×Lf.Entry:=(134,⟨[.obj 216 (.st xY17) (.st xY17) []],[.bool],fun z=>octet_Cursor__fine z⟩)
theorem octet_Cursor__fine_ok:Lf.EntryOk Go.Proofs.Tryz.prog GG 134 octet_Cursor__fineEnt.2:=
 Lf.fn_ok (c:=octet_Cursor__fineCtx) (code:=octet_Cursor__fineCode) (an:=octet_Cursor__fineAnn) (slots:=[.tmp 2]) (fn:=Go.Proofs.Tryz.f134) (by kernel_rfl) ⟨Tys_ok,Lf.FnsOk.look (.con octet_Cursor__Err_ok .nil),Lf.IpsOk.look .nil,TysEq_ok,TysIm_ok,Lf.IvsOk.look .nil,Lf.FxsOk.look .nil⟩ (by kernel_rfl) (by kernel_rfl) (by kernel_rfl) (by kernel_rfl) (by kernel_rfl) (Nat.le_of_ble_eq_true rfl) (by simp [Lf.Ty.top]) (by simp [Lf.Ty.top]) fun z r h=>(octet_Cursor__fine_eq z).trans h
noncomputable def octet_Cursor__LeftCtx:Lf.Ctx:=⟨15,Tys,[],[],[],[],[],TysEq,[],some 4611686018427387904,TysIm,[]⟩
noncomputable def octet_Cursor__LeftCode:Go.Code:=(Go.Proofs.Tryz.f163.body).getD .skip
def octet_Cursor__LeftAnn:Lf.Ann:=(.seq .no (.seq .no (.seq (.draw 11) .no)))
noncomputable def octet_Cursor__Left (a0:(List (Int))×((Int)×((Int)×(Unit)))):Option ((Int)×xT5):=
 some ((Go.IntKind.wrap .i64 ((((List.length a0.1):Nat):Int) - a0.2.1)),a0)
theorem octet_Cursor__Left_eq (a0:(List (Int))×((Int)×((Int)×(Unit)))):Lf.fnE octet_Cursor__LeftCtx octet_Cursor__LeftCode octet_Cursor__LeftAnn [.obj 216 (.st xY17) (.st xY17) []] [(.int .i64)] [.tmp 2] (a0)=octet_Cursor__Left a0:=by kernel_rfl
noncomputable def octet_Cursor__LeftEnt:Nat×Lf.Entry:=(163,⟨[.obj 216 (.st xY17) (.st xY17) []],[(.int .i64)],fun z=>octet_Cursor__Left z⟩)
theorem octet_Cursor__Left_ok:Lf.EntryOk Go.Proofs.Tryz.prog GG 163 octet_Cursor__LeftEnt.2:=
 Lf.fn_ok (c:=octet_Cursor__LeftCtx) (code:=octet_Cursor__LeftCode) (an:=octet_Cursor__LeftAnn) (slots:=[.tmp 2]) (fn:=Go.Proofs.Tryz.f163) (by kernel_rfl) ⟨Tys_ok,Lf.FnsOk.look .nil,Lf.IpsOk.look .nil,TysEq_ok,TysIm_ok,Lf.IvsOk.look .nil,Lf.FxsOk.look .nil⟩ (by kernel_rfl) (by kernel_rfl) (by kernel_rfl) (by kernel_rfl) (by kernel_rfl) (Nat.le_of_ble_eq_true rfl) (by simp [Lf.Ty.top]) (by simp [Lf.Ty.top]) fun z r h=>(octet_Cursor__Left_eq z).trans h
noncomputable def octet_Cursor__numberCtx:Lf.Ctx:=⟨59,Tys,[octet_Cursor__LeftEnt],[],[],[],[],TysEq,[],some 4611686018427387904,TysIm,[]⟩
noncomputable def octet_Cursor__numberCode:Go.Code:=(Go.Proofs.Tryz.f135.body).getD .skip
def octet_Cursor__numberAnn:Lf.Ann:=(.seq .no (.seq .no (.seq .no (.seq (.loop ⟨[],[(0, .ref 0 [] 0)],[(6,(.int .i64)),(5,(.int .u64))],[(0,216,(.st xY17))],[]⟩ (.more (.ext 0) ⟨[],[(0, .ref 0 [] 0)],[(6,(.int .i64)),(5,(.int .u64))],[(0,216,(.st xY17))],[]⟩ (.one .ret ⟨[],[(0, .ref 0 [] 0)],[(2,(.int .u64)),(3,(.int .i64)),(4,(.int .i64))],[(0,216,(.st xY17))],[]⟩)) (.seq .no (.seq (.seq (.draw 14) (.seq (.seq (.join (.one .nrm ⟨[6,7,5],[(0, .ref 0 [] 0)],[(36, .bool)],[(0,216,(.st xY17))],[]⟩) .no) .no) (.seq .no (.seq .no (.cnd (.seq (.seq (.join (.one .nrm ⟨[6,5],[(0, .ref 0 [] 0)],[(51, .bool)],[(0,216,(.st xY17))],[]⟩) .no) .no) .no) .no))))) .no))) .no))))
noncomputable def octet_Cursor__number (a0:(List (Int))×((Int)×((Int)×(Unit)))):Option ((Int)×((Int)×((Int)×xT5))):=
 (Lf.loopU (σ:=(Int)×((Int)×xT5)) (κ:=((Int)×((Int)×xT5))⊕((Int)×((Int)×((Int)×xT5)))) (fun z1=>
   ((Go.Fn.octet_Cursor__Left z1.2.2)).bind fun r2=>
   bif (decide (z1.1<r2.1)) then ((Lf.chk (List.length r2.2.1) (Go.IntKind.wrap .i64 (r2.2.2.1+z1.1)))).bind fun r3=>
   ((Lf.nth r2.2.1 r3)).bind fun r4=>
   (bif (!(decide ((9:Int)<z1.1))) then bif (decide ((z1.1:Int)=(9:Int))) then some ((decide ((1:Int)<(Go.IntKind.wrap .u64 r4))),r2.2)
    else some (false,r2.2)
    else some (true,r2.2)).bind fun r5=>
   bif r5.1 then some (.inr (.inr ((0:Int),((0:Int),((31:Int),r5.2)))))
   else ((Lf.nn (Go.IntKind.wrap .i64 ((7:Int)*z1.1)) (Go.IntKind.wrap .u64 ((Lf.bits .and .u64 (Go.IntKind.wrap .u64 r4) (127:Int))*((2:Int)^(Min.min (Int.toNat (Go.IntKind.wrap .i64 ((7:Int)*z1.1))) (64:Nat))))))).bind fun r6=>
   bif (decide ((Go.IntKind.wrap .u64 r4)<(128:Int))) then (bif (decide (((Go.IntKind.wrap .u64 r4):Int)=(0:Int))) then some ((decide ((0:Int)<z1.1)),r5.2)
    else some (false,r5.2)).bind fun r7=>
   bif r7.1 then some (.inr (.inr ((0:Int),((0:Int),((31:Int),r7.2)))))
   else some (.inr (.inl (z1.1,((Lf.bits .or .u64 z1.2.1 r6),r7.2))))
   else some (.inl ((Go.IntKind.wrap .i64 (z1.1+(1:Int))),((Lf.bits .or .u64 z1.2.1 r6),r5.2)))
   else some (.inr (.inl (Lf.u2 z1 r2.2)))) ((0:Int),((0:Int),a0)):Option (((Int)×((Int)×xT5))⊕((Int)×((Int)×((Int)×xT5))))).bind fun r8=>
 Lf.onSum r8 (fun a9=>
 ((Go.Fn.octet_Cursor__Left a9.2.2)).bind fun r10=>
 bif (decide (r10.1≤a9.1)) then some ((0:Int),((0:Int),((30:Int),r10.2)))
 else some (a9.2.1,((Go.IntKind.wrap .i64 (a9.1+(1:Int))),((0:Int),r10.2)))) (fun b11=>
 some b11)
theorem octet_Cursor__number_eq (a0:(List (Int))×((Int)×((Int)×(Unit)))):Lf.fnE octet_Cursor__numberCtx octet_Cursor__numberCode octet_Cursor__numberAnn [.obj 216 (.st xY17) (.st xY17) []] [(.int .u64),(.int .i64),(.int .i64)] [.tmp 2, .tmp 3, .tmp 4] (a0)=octet_Cursor__number a0:=by kernel_rfl
noncomputable def octet_Cursor__numberEnt:Nat×Lf.Entry:=(135,⟨[.obj 216 (.st xY17) (.st xY17) []],[(.int .u64),(.int .i64),(.int .i64)],fun z=>octet_Cursor__number z⟩)
theorem octet_Cursor__number_ok:Lf.EntryOk Go.Proofs.Tryz.prog GG 135 octet_Cursor__numberEnt.2:=
 Lf.fn_ok (c:=octet_Cursor__numberCtx) (code:=octet_Cursor__numberCode) (an:=octet_Cursor__numberAnn) (slots:=[.tmp 2, .tmp 3, .tmp 4]) (fn:=Go.Proofs.Tryz.f135) (by kernel_rfl) ⟨Tys_ok,Lf.FnsOk.look (.con octet_Cursor__Left_ok .nil),Lf.IpsOk.look .nil,TysEq_ok,TysIm_ok,Lf.IvsOk.look .nil,Lf.FxsOk.look .nil⟩ (by kernel_rfl) (by kernel_rfl) (by kernel_rfl) (by kernel_rfl) (by kernel_rfl) (Nat.le_of_ble_eq_true rfl) (by simp [Lf.Ty.top]) (by simp [Lf.Ty.top]) fun z r h=>(octet_Cursor__number_eq z).trans h
noncomputable def octet_Cursor__FailCtx:Lf.Ctx:=⟨17,Tys,[],[],[],[],[],TysEq,[],some 4611686018427387904,TysIm,[]⟩
noncomputable def octet_Cursor__FailCode:Go.Code:=(Go.Proofs.Tryz.f136.body).getD .skip
def octet_Cursor__FailAnn:Lf.Ann:= .no
noncomputable def octet_Cursor__Fail (a0:(List (Int))×((Int)×((Int)×(Unit)))) (a1:Int):Option xT5:=
 bif (decide ((a0.2.2.1:Int)=(0:Int))) then some (Lf.u2 a0 (a1,a0.2.2.2))
 else some a0
theorem octet_Cursor__Fail_eq (a0:(List (Int))×((Int)×((Int)×(Unit)))) (a1:Int):Lf.fnE octet_Cursor__FailCtx octet_Cursor__FailCode octet_Cursor__FailAnn [.obj 216 (.st xY17) (.st xY17) [], .val (.int .i64)] [] [] (a0,a1)=octet_Cursor__Fail a0 a1:=by kernel_rfl
noncomputable def octet_Cursor__FailEnt:Nat×Lf.Entry:=(136,⟨[.obj 216 (.st xY17) (.st xY17) [], .val (.int .i64)],[],fun z=>octet_Cursor__Fail z.1 z.2⟩)
theorem octet_Cursor__Fail_ok:Lf.EntryOk Go.Proofs.Tryz.prog GG 136 octet_Cursor__FailEnt.2:=
 Lf.fn_ok (c:=octet_Cursor__FailCtx) (code:=octet_Cursor__FailCode) (an:=octet_Cursor__FailAnn) (slots:=[]) (fn:=Go.Proofs.Tryz.f136) (by kernel_rfl) ⟨Tys_ok,Lf.FnsOk.look .nil,Lf.IpsOk.look .nil,TysEq_ok,TysIm_ok,Lf.IvsOk.look .nil,Lf.FxsOk.look .nil⟩ (by kernel_rfl) (by kernel_rfl) (by kernel_rfl) (by kernel_rfl) (by kernel_rfl) (Nat.le_of_ble_eq_true rfl) (by simp [Lf.Ty.top]) (by simp [Lf.Ty.top]) fun z r h=>(octet_Cursor__Fail_eq z.1 z.2).trans h
noncomputable def octet_Cursor__UintCtx:Lf.Ctx:=⟨31,Tys,[octet_Cursor__fineEnt,octet_Cursor__numberEnt,octet_Cursor__FailEnt],[11],[],[],[],TysEq,[],some 4611686018427387904,TysIm,[]⟩
noncomputable def octet_Cursor__UintCode:Go.Code:=(Go.Proofs.Tryz.f101.body).getD .skip
def octet_Cursor__UintAnn:Lf.Ann:= .no
noncomputable def octet_Cursor__Uint (a0:(List (Int))×((Int)×((Int)×(Unit)))):Option ((Int)×xT5):=
 ((Go.Fn.octet_Cursor__fine a0)).bind fun r1=>
 bif (!r1.1) then some ((0:Int),r1.2)
 else ((Go.Fn.octet_Cursor__number r1.2)).bind fun r2=>
 bif (decide ((r2.2.2.1:Int)≠(0:Int))) then ((Go.Fn.octet_Cursor__Fail r2.2.2.2 r2.2.2.1)).bind fun r3=>
 some ((0:Int),r3)
 else some (r2.1,(r2.2.2.2.1,((Go.IntKind.wrap .i64 (r2.2.2.2.2.1+r2.2.1)),r2.2.2.2.2.2)))
theorem octet_Cursor__Uint_eq (a0:(List (Int))×((Int)×((Int)×(Unit)))):Lf.fnE octet_Cursor__UintCtx octet_Cursor__UintCode octet_Cursor__UintAnn [.obj 216 (.st xY17) (.st xY17) []] [(.int .u64)] [.tmp 2] (a0)=octet_Cursor__Uint a0:=by kernel_rfl
noncomputable def octet_Cursor__UintEnt:Nat×Lf.Entry:=(101,⟨[.obj 216 (.st xY17) (.st xY17) []],[(.int .u64)],fun z=>octet_Cursor__Uint z⟩)
theorem octet_Cursor__Uint_ok:Lf.EntryOk Go.Proofs.Tryz.prog GG 101 octet_Cursor__UintEnt.2:=
 Lf.fn_ok (c:=octet_Cursor__UintCtx) (code:=octet_Cursor__UintCode) (an:=octet_Cursor__UintAnn) (slots:=[.tmp 2]) (fn:=Go.Proofs.Tryz.f101) (by kernel_rfl) ⟨Tys_ok,Lf.FnsOk.look (.con octet_Cursor__fine_ok (.con octet_Cursor__number_ok (.con octet_Cursor__Fail_ok .nil))),Lf.IpsOk.look .nil,TysEq_ok,TysIm_ok,Lf.IvsOk.look .nil,Lf.FxsOk.look .nil⟩ (by kernel_rfl) (by kernel_rfl) (by kernel_rfl) (by kernel_rfl) (by kernel_rfl) (Nat.le_of_ble_eq_true rfl) (by simp [Lf.Ty.top]) (by simp [Lf.Ty.top]) fun z r h=>(octet_Cursor__Uint_eq z).trans h
noncomputable def octet_Cursor__AtCtx:Lf.Ctx:=⟨9,Tys,[],[],[],[],[],TysEq,[],some 4611686018427387904,TysIm,[]⟩
noncomputable def octet_Cursor__AtCode:Go.Code:=(Go.Proofs.Tryz.f103.body).getD .skip
def octet_Cursor__AtAnn:Lf.Ann:= .no
noncomputable def octet_Cursor__At (a0:(List (Int))×((Int)×((Int)×(Unit)))):Option (Int):=
 some a0.2.1
theorem octet_Cursor__At_eq (a0:(List (Int))×((Int)×((Int)×(Unit)))):Lf.fnE octet_Cursor__AtCtx octet_Cursor__AtCode octet_Cursor__AtAnn [.val (.ptr (.st (.pr (.sl (.int .u8)) xY1)))] [(.int .i64)] [.tmp 2] (a0)=octet_Cursor__At a0:=by kernel_rfl
noncomputable def octet_Cursor__AtEnt:Nat×Lf.Entry:=(103,⟨[.val (.ptr (.st (.pr (.sl (.int .u8)) xY1)))],[(.int .i64)],fun z=>octet_Cursor__At z⟩)
theorem octet_Cursor__At_ok:Lf.EntryOk Go.Proofs.Tryz.prog GG 103 octet_Cursor__AtEnt.2:=
 Lf.fn_ok (c:=octet_Cursor__AtCtx) (code:=octet_Cursor__AtCode) (an:=octet_Cursor__AtAnn) (slots:=[.tmp 2]) (fn:=Go.Proofs.Tryz.f103) (by kernel_rfl) ⟨Tys_ok,Lf.FnsOk.look .nil,Lf.IpsOk.look .nil,TysEq_ok,TysIm_ok,Lf.IvsOk.look .nil,Lf.FxsOk.look .nil⟩ (by kernel_rfl) (by kernel_rfl) (by kernel_rfl) (by kernel_rfl) (by kernel_rfl) (Nat.le_of_ble_eq_true rfl) (by simp [Lf.Ty.top]) (by simp [Lf.Ty.top]) fun z r h=>(octet_Cursor__At_eq z).trans h
noncomputable def code_finishCtx:Lf.Ctx:=⟨81,Tys,[],[67],[],[(67,(.rw 3 (.int .i64)))],[],TysEq,[],some 4611686018427387904,TysIm,[]⟩
noncomputable def code_finishCode:Go.Code:=(Go.Proofs.Tryz.f104.body).getD .skip
def code_finishAnn:Lf.Ann:=(.seq .no (.seq (.join (.more .ret ⟨[],[(6, .ref 6 [] 0)],[(7,(.int .i64))],[(6,64,xY44)],[]⟩ (.one .nrm ⟨[],[(6, .ref 6 [] 0),(4, .ref 4 [] 0)],[],[(6,64,xY44),(4,64,xY45)],[]⟩)) (.seq .no (.seq .no (.cnd .no (.seq (.join (.one .nrm ⟨[2,0,12],[(6, .ref 6 [] 0),(4, .ref 4 [] 0)],[(24, .bool)],[(6,64,xY44),(4,64,xY45)],[]⟩) .no) (.cnd .no (.seq .no (.cnd .no (.seq .no (.cnd (.seq .no (.seq .no (.seq .no (.seq (.seq .no (.loop ⟨[60,2,61],[(4, .ref 4 [] 0),(6, .ref 6 [] 0)],[(62,(.int .i64))],[(4,64,xY45),(6,64,xY44)],[]⟩ (.one (.ext 1) ⟨[2],[(6, .ref 6 [] 0),(4, .ref 4 [] 0)],[],[(6,64,xY44),(4,64,xY45)],[]⟩) .no)) .no)))) .no)))))))))) .no))
noncomputable def code_finish (a0:List (Int)) (a1:(Int)×((Int)×xT4)) (a2:Int):Option (((Int)×((Int)×xT4))×(Int)):=
 (bif (decide ((a1.2.2.1:Int)=(1:Int))) then bif (decide ((16383:Int)<a2)) then some (.inl ((161:Int),((0:Int),((0:Int),((0:Int),((0:Int),(([]:List (Int)),())))))))
  else some (.inr (((0:Int),((0:Int),((0:Int),((0:Int),(([]:List (Int)),()))))),(a1.1,(a1.2.1,(a1.2.2.1,((Go.IntKind.wrap .i64 (a2+(1:Int))),a1.2.2.2.2))))))
  else (bif (decide ((a1.2.2.1:Int)=(2:Int))) then some ((decide ((a1.2.2.1:Int)=(2:Int))),(((0:Int),((0:Int),((0:Int),((0:Int),(([]:List (Int)),()))))),a1))
   else bif (decide ((a1.2.2.1:Int)=(3:Int))) then some ((decide ((a1.2.2.1:Int)=(3:Int))),(((0:Int),((0:Int),((0:Int),((0:Int),(([]:List (Int)),()))))),a1))
   else bif (decide ((a1.2.2.1:Int)=(4:Int))) then some ((decide ((a1.2.2.1:Int)=(4:Int))),(((0:Int),((0:Int),((0:Int),((0:Int),(([]:List (Int)),()))))),a1))
   else some ((decide ((a1.2.2.1:Int)=(10:Int))),(((0:Int),((0:Int),((0:Int),((0:Int),(([]:List (Int)),()))))),a1))).bind fun r1=>
  bif r1.1 then some (.inr (Lf.u4 r1.2 (a2,r1.2.2.2.2.2.2)))
  else bif (decide ((a1.2.2.1:Int)=(8:Int))) then some (.inr (Lf.u4 r1.2 ((Go.IntKind.wrap .i64 (a2 - (1:Int))),r1.2.2.2.2.2.2)))
  else bif (decide ((a1.2.2.1:Int)=(12:Int))) then bif (decide ((16:Int)≤a2)) then some (.inl ((161:Int),((0:Int),((0:Int),((0:Int),((0:Int),(([]:List (Int)),())))))))
  else bif (decide ((Go.IntKind.wrap .i64 ((((List.length a0):Nat):Int) - (Go.IntKind.wrap .i64 (r1.2.2.1+r1.2.2.2.1))))<(Go.IntKind.wrap .i64 (a2+(1:Int))))) then some (.inl ((30:Int),((0:Int),((0:Int),((0:Int),((0:Int),(([]:List (Int)),())))))))
  else ((Lf.sub a0 (Go.IntKind.wrap .i64 (r1.2.2.1+r1.2.2.2.1)) (Go.IntKind.wrap .i64 ((Go.IntKind.wrap .i64 ((Go.IntKind.wrap .i64 (r1.2.2.1+r1.2.2.2.1))+a2))+(1:Int))))).bind fun r2=>
  (Lf.loopU (σ:=(Int)×xT51) (κ:=((Int)×((Int)×xT4))×((Int)×((Int)×xT4))) (fun z3=>
    bif (decide (z3.1<(((List.length r2):Nat):Int))) then ((Lf.idx r2 z3.1)).bind fun r4=>
    ((Lf.app (8:Nat) z3.2.1.2.2.2.2.1 ((Go.IntKind.wrap .i64 r4)::([]:List (Int))))).bind fun r5=>
    some (.inl ((Go.IntKind.wrap .i64 (z3.1+(1:Int))),((Lf.u4 z3.2.1 (r5,z3.2.1.2.2.2.2.2)),z3.2.2)))
    else some (.inr (z3.2.2,z3.2.1))) ((0:Int),(r1.2.2,r1.2.1)):Option xT51).bind fun r6=>
  some (.inr (Lf.u2 r6 ((Go.IntKind.wrap .i64 (r6.2.2.1+(Go.IntKind.wrap .i64 (a2+(1:Int))))),r6.2.2.2)))
  else bif (decide ((a2:Int)≠(0:Int))) then some (.inl ((161:Int),((0:Int),((0:Int),((0:Int),((0:Int),(([]:List (Int)),())))))))
  else some (.inr r1.2):Option (((Int)×((Int)×((Int)×xT4)))⊕xT51)).bind fun r7=>
 Lf.onSum r7 (fun a8=>
 some (a8.2,a8.1)) (fun b9=>
 some (b9.2,(0:Int)))
theorem code_finish_eq (a0:List (Int)) (a1:(Int)×((Int)×xT4)) (a2:Int):Lf.fnE code_finishCtx code_finishCode code_finishAnn [.val (.sl (.int .u8)), .val xY45, .val (.int .i64)] [xY44,(.int .i64)] [.cell 6 64, .tmp 7] (a0,a1,a2)=code_finish a0 a1 a2:=by kernel_rfl
noncomputable def code_finishEnt:Nat×Lf.Entry:=(104,⟨[.val (.sl (.int .u8)), .val xY45, .val (.int .i64)],[xY44,(.int .i64)],fun z=>code_finish z.1 z.2.1 z.2.2⟩)
theorem code_finish_ok:Lf.EntryOk Go.Proofs.Tryz.prog GG 104 code_finishEnt.2:=
 Lf.fn_ok (c:=code_finishCtx) (code:=code_finishCode) (an:=code_finishAnn) (slots:=[.cell 6 64, .tmp 7]) (fn:=Go.Proofs.Tryz.f104) (by kernel_rfl) ⟨Tys_ok,Lf.FnsOk.look .nil,Lf.IpsOk.look .nil,TysEq_ok,TysIm_ok,Lf.IvsOk.look .nil,Lf.FxsOk.look .nil⟩ (by kernel_rfl) (by kernel_rfl) (by kernel_rfl) (by kernel_rfl) (by kernel_rfl) (Nat.le_of_ble_eq_true rfl) (by simp [Lf.Ty.top]) (by simp [Lf.Ty.top]) fun z r h=>(code_finish_eq z.1 z.2.1 z.2.2).trans h
noncomputable def code_NextCtx:Lf.Ctx:=⟨72,Tys,[octet_NewEnt,octet_Cursor__UintEnt,octet_Cursor__ErrEnt,octet_Cursor__AtEnt,code_finishEnt],[67],[],[(8,xY45),(38,xY45)],[],TysEq,[],some 4611686018427387904,TysIm,[]⟩
noncomputable def code_NextCode:Go.Code:=(Go.Proofs.Tryz.f55.body).getD .skip
def code_NextAnn:Lf.Ann:=(.seq .no (.seq (.seq (.join (.one .nrm ⟨[0,1],[(4, .ref 4 [] 0)],[(19, .bool)],[(4,64,xY44)],[]⟩) .no) .no) (.seq (.draw 14) (.seq .no (.seq .no (.seq (.join (.more .ret ⟨[],[(4, .ref 4 [] 0)],[(5,(.int .i64))],[(4,64,xY44)],[]⟩ (.one .nrm ⟨[0],[(4, .ref 4 [] 0),(8, .ref 8 [] 0)],[(7,(.int .i64))],[(4,64,xY44),(8,64,xY45)],[]⟩)) (.seq .no (.cnd (.seq .no (.seq .no (.seq .no (.seq .no (.seq .no (.draw 6)))))) .no))) .no))))))
noncomputable def code_Next (a0:List (Int)) (a1:Int):Option (((Int)×((Int)×xT4))×(Int)):=
 (bif (!(decide (a1<(0:Int)))) then some ((decide ((((List.length a0):Nat):Int)≤a1)),((0:Int),((0:Int),((0:Int),((0:Int),(([]:List (Int)),()))))))
  else some (true,((0:Int),((0:Int),((0:Int),((0:Int),(([]:List (Int)),()))))))).bind fun r1=>
 bif r1.1 then some (((0:Int),((0:Int),((0:Int),((0:Int),(([]:List (Int)),()))))),(1:Int))
 else ((Lf.idx a0 a1)).bind fun r2=>
 ((Lf.nn (4:Int) (Int.fdiv r2 ((2:Int)^(Min.min (Int.toNat (4:Int)) (8:Nat)))))).bind fun r3=>
 ((Lf.idx a0 a1)).bind fun r4=>
 bif (decide (((Go.IntKind.wrap .i64 r3):Int)=(0:Int))) then some (((0:Int),((0:Int),((0:Int),((0:Int),(([]:List (Int)),()))))),(160:Int))
 else (bif (decide (((Go.IntKind.wrap .i64 (Lf.bits .and .u8 r4 (15:Int))):Int)=(15:Int))) then ((Lf.sub a0 (Go.IntKind.wrap .i64 (a1+(1:Int))) (((List.length a0):Nat):Int))).bind fun r5=>
  ((Go.Fn.octet_New r5)).bind fun r6=>
  ((Go.Fn.octet_Cursor__Uint r6)).bind fun r7=>
  ((Go.Fn.octet_Cursor__Err r7.2)).bind fun r8=>
  bif (decide ((r8.1:Int)≠(0:Int))) then some (.inl (r8.1,((0:Int),((0:Int),((0:Int),((0:Int),(([]:List (Int)),())))))))
  else bif (decide ((2147483632:Int)<r7.1)) then some (.inl ((161:Int),((0:Int),((0:Int),((0:Int),((0:Int),(([]:List (Int)),())))))))
  else ((Go.Fn.octet_Cursor__At r8.2)).bind fun r9=>
  some (.inr ((Go.IntKind.wrap .i64 ((Go.IntKind.wrap .i64 r7.1)+(15:Int))),(r1.2,(a1,((Go.IntKind.wrap .i64 ((1:Int)+r9)),((Go.IntKind.wrap .i64 r3),((0:Int),(([]:List (Int)),()))))))))
  else some (.inr ((Go.IntKind.wrap .i64 (Lf.bits .and .u8 r4 (15:Int))),(r1.2,(a1,((1:Int),((Go.IntKind.wrap .i64 r3),((0:Int),(([]:List (Int)),())))))))):Option (((Int)×((Int)×((Int)×xT4)))⊕((Int)×xT51))).bind fun r10=>
 Lf.onSum r10 (fun a11=>
 some (a11.2,a11.1)) (fun b12=>
 ((Go.Fn.code_finish a0 b12.2.2 b12.1)).bind fun r13=>
 some r13)
theorem code_Next_eq (a0:List (Int)) (a1:Int):Lf.fnE code_NextCtx code_NextCode code_NextAnn [.val (.sl (.int .u8)), .val (.int .i64)] [xY44,(.int .i64)] [.cell 4 64, .tmp 5] (a0,a1)=code_Next a0 a1:=by kernel_rfl
noncomputable def code_NextEnt:Nat×Lf.Entry:=(55,⟨[.val (.sl (.int .u8)), .val (.int .i64)],[xY44,(.int .i64)],fun z=>code_Next z.1 z.2⟩)
theorem code_Next_ok:Lf.EntryOk Go.Proofs.Tryz.prog GG 55 code_NextEnt.2:=
 Lf.fn_ok (c:=code_NextCtx) (code:=code_NextCode) (an:=code_NextAnn) (slots:=[.cell 4 64, .tmp 5]) (fn:=Go.Proofs.Tryz.f55) (by kernel_rfl) ⟨Tys_ok,Lf.FnsOk.look (.con octet_New_ok (.con octet_Cursor__Uint_ok (.con octet_Cursor__Err_ok (.con octet_Cursor__At_ok (.con code_finish_ok .nil))))),Lf.IpsOk.look .nil,TysEq_ok,TysIm_ok,Lf.IvsOk.look .nil,Lf.FxsOk.look .nil⟩ (by kernel_rfl) (by kernel_rfl) (by kernel_rfl) (by kernel_rfl) (by kernel_rfl) (Nat.le_of_ble_eq_true rfl) (by simp [Lf.Ty.top]) (by simp [Lf.Ty.top]) fun z r h=>(code_Next_eq z.1 z.2).trans h
noncomputable def code_InstrsCtx:Lf.Ctx:=⟨45,Tys,[code_NextEnt],[2,5,16,26,42],[],[(2,(.rw 64 xY44)),(5,(.rw 64 xY44)),(26,(.rw 64 xY44)),(42,(.rw 64 xY44))],[],TysEq,[],some 4611686018427387904,TysIm,[]⟩
noncomputable def code_InstrsCode:Go.Code:=(Go.Proofs.Tryz.f21.body).getD .skip
def code_InstrsAnn:Lf.Ann:=(.seq .no (.seq .no (.seq .no (.seq (.seq .no (.loop ⟨[0],[],[(6,(.int .i64)),(5,(.rw 64 xY44))],[],[]⟩ (.more (.ext 0) ⟨[0],[],[],[],[]⟩ (.one .ret ⟨[],[],[(2,(.rw 64 xY44)),(3,(.int .i64)),(4,(.int .i64))],[],[]⟩)) .no)) .no))))
noncomputable def code_Instrs (a0:List (Int)):Option ((List ((Int)×((Int)×xT4)))×((Int)×(Int))):=
 bif (decide ((1048576:Int)<(((List.length a0):Nat):Int))) then some (([]:List ((Int)×((Int)×xT4))),((0:Int),(2:Int)))
 else (Lf.loopU (σ:=(Int)×(List ((Int)×((Int)×xT4)))) (κ:=(Unit)⊕((List ((Int)×((Int)×xT4)))×((Int)×(Int)))) (fun z1=>
   bif (decide (z1.1<(((List.length a0):Nat):Int))) then ((Go.Fn.code_Next a0 z1.1)).bind fun r2=>
   bif (decide ((r2.2:Int)≠(0:Int))) then some (.inr (.inr (([]:List ((Int)×((Int)×xT4))),(z1.1,r2.2))))
   else ((Lf.app (56:Nat) z1.2 (r2.1::([]:List ((Int)×((Int)×xT4)))))).bind fun r3=>
   bif (decide ((r2.1.2.2.1:Int)=(15:Int))) then bif (decide ((Go.IntKind.wrap .i64 (z1.1+r2.1.2.1))<(((List.length a0):Nat):Int))) then some (.inr (.inr (([]:List ((Int)×((Int)×xT4))),((Go.IntKind.wrap .i64 (z1.1+r2.1.2.1)),(162:Int)))))
   else some (.inr (.inr (r3,((0:Int),(0:Int)))))
   else some (.inl ((Go.IntKind.wrap .i64 (z1.1+r2.1.2.1)),r3))
   else some (.inr (.inl ()))) ((0:Int),([]:List ((Int)×((Int)×xT4)))):Option ((Unit)⊕((List ((Int)×((Int)×xT4)))×((Int)×(Int))))).bind fun r4=>
 Lf.onSum r4 (fun a5=>
 some (([]:List ((Int)×((Int)×xT4))),((((List.length a0):Nat):Int),(162:Int)))) (fun b6=>
 some b6)
theorem code_Instrs_eq (a0:List (Int)):Lf.fnE code_InstrsCtx code_InstrsCode code_InstrsAnn [.val (.sl (.int .u8))] [(.rw 64 xY44),(.int .i64),(.int .i64)] [.tmp 2, .tmp 3, .tmp 4] (a0)=code_Instrs a0:=by kernel_rfl
noncomputable def code_InstrsEnt:Nat×Lf.Entry:=(21,⟨[.val (.sl (.int .u8))],[(.rw 64 xY44),(.int .i64),(.int .i64)],fun z=>code_Instrs z⟩)
theorem code_Instrs_ok:Lf.EntryOk Go.Proofs.Tryz.prog GG 21 code_InstrsEnt.2:=
 Lf.fn_ok (c:=code_InstrsCtx) (code:=code_InstrsCode) (an:=code_InstrsAnn) (slots:=[.tmp 2, .tmp 3, .tmp 4]) (fn:=Go.Proofs.Tryz.f21) (by kernel_rfl) ⟨Tys_ok,Lf.FnsOk.look (.con code_Next_ok .nil),Lf.IpsOk.look .nil,TysEq_ok,TysIm_ok,Lf.IvsOk.look .nil,Lf.FxsOk.look .nil⟩ (by kernel_rfl) (by kernel_rfl) (by kernel_rfl) (by kernel_rfl) (by kernel_rfl) (Nat.le_of_ble_eq_true rfl) (by simp [Lf.Ty.top]) (by simp [Lf.Ty.top]) fun z r h=>(code_Instrs_eq z).trans h
noncomputable def check_walk__operandCtx:Lf.Ctx:=⟨50,Tys,[],[],[],[],[],TysEq,[],some 4611686018427387904,TysIm,[]⟩
noncomputable def check_walk__operandCode:Go.Code:=(Go.Proofs.Tryz.f105.body).getD .skip
def check_walk__operandAnn:Lf.Ann:=(.seq .no (.seq (.seq .no (.seq (.join (.one .nrm ⟨[8],[(0, .ref 0 [] 0),(3, .ref 3 [] 0)],[(9, .bool)],[(0,175,xY182),(3,64,xY44)],[]⟩) .no) (.cnd (.seq (.draw 8) .no) (.seq (.join (.one .nrm ⟨[8],[(0, .ref 0 [] 0),(3, .ref 3 [] 0)],[(19, .bool)],[(0,175,xY182),(3,64,xY44)],[]⟩) .no) (.cnd (.seq (.draw 8) .no) (.seq .no (.cnd .no (.seq .no (.cnd (.seq (.seq .no (.loop ⟨[37,38],[(0, .ref 0 [] 0),(3, .ref 3 [] 0)],[(39,(.int .i64))],[(0,175,xY182),(3,64,xY44)],[]⟩ (.more (.ext 1) ⟨[],[(0, .ref 0 [] 0),(3, .ref 3 [] 0)],[],[(0,175,xY182),(3,64,xY44)],[]⟩ (.one .ret ⟨[],[(0, .ref 0 [] 0)],[(4, .bool)],[(0,175,xY182)],[]⟩)) .no)) .no) .no))))))))) .no))
noncomputable def check_walk__operand (a0:(((Int)×xT7)×xT155)×xT35) (a1:(Int)×((Int)×xT4)):Option ((Bool)×xT160):=
 (bif (decide ((a1.2.2.1:Int)=(2:Int))) then some ((decide ((a1.2.2.1:Int)=(2:Int))),(a0,a1))
  else some ((decide ((a1.2.2.1:Int)=(8:Int))),(a0,a1))).bind fun r1=>
 bif r1.1 then some ((decide (r1.2.2.2.2.2.1<r1.2.1.2.2.2.2.2.2.2.1)),r1.2.1)
 else (bif (decide ((a1.2.2.1:Int)=(3:Int))) then some ((decide ((a1.2.2.1:Int)=(3:Int))),r1.2)
  else some ((decide ((a1.2.2.1:Int)=(4:Int))),r1.2)).bind fun r2=>
 bif r2.1 then some ((decide (r2.2.2.2.2.2.1<r2.2.1.2.2.2.2.2.2.2.2.1)),r2.2.1)
 else bif (decide ((a1.2.2.1:Int)=(10:Int))) then some ((decide (r2.2.2.2.2.2.1≤(1:Int))),r2.2.1)
 else bif (decide ((a1.2.2.1:Int)=(12:Int))) then (Lf.loopU (σ:=(Int)×(xT160×((Int)×((Int)×xT4)))) (κ:=(xT160×((Int)×((Int)×xT4)))⊕((Bool)×xT160)) (fun z3=>
   bif (decide (z3.1<(((List.length r2.2.2.2.2.2.2.1):Nat):Int))) then ((Lf.idx r2.2.2.2.2.2.2.1 z3.1)).bind fun r4=>
   bif (decide ((100:Int)<r4)) then some (.inr (.inr (false,z3.2.1)))
   else some (.inl ((Go.IntKind.wrap .i64 (z3.1+(1:Int))),z3.2))
   else some (.inr (.inl z3.2))) ((0:Int),r2.2):Option ((xT160×((Int)×((Int)×xT4)))⊕((Bool)×xT160))).bind fun r5=>
 Lf.onSum r5 (fun a6=>
 some ((decide ((((List.length a6.2.2.2.2.2.1):Nat):Int)≤(8:Int))),a6.1)) (fun b7=>
 some b7)
 else some (true,r2.2.1)
theorem check_walk__operand_eq (a0:(((Int)×xT7)×xT155)×xT35) (a1:(Int)×((Int)×xT4)):Lf.fnE check_walk__operandCtx check_walk__operandCode check_walk__operandAnn [.obj 175 xY182 xY182 [], .val xY44] [.bool] [.tmp 4] (a0,a1)=check_walk__operand a0 a1:=by kernel_rfl
noncomputable def check_walk__operandEnt:Nat×Lf.Entry:=(105,⟨[.obj 175 xY182 xY182 [], .val xY44],[.bool],fun z=>check_walk__operand z.1 z.2⟩)
theorem check_walk__operand_ok:Lf.EntryOk Go.Proofs.Tryz.prog GG 105 check_walk__operandEnt.2:=
 Lf.fn_ok (c:=check_walk__operandCtx) (code:=check_walk__operandCode) (an:=check_walk__operandAnn) (slots:=[.tmp 4]) (fn:=Go.Proofs.Tryz.f105) (by kernel_rfl) ⟨Tys_ok,Lf.FnsOk.look .nil,Lf.IpsOk.look .nil,TysEq_ok,TysIm_ok,Lf.IvsOk.look .nil,Lf.FxsOk.look .nil⟩ (by kernel_rfl) (by kernel_rfl) (by kernel_rfl) (by kernel_rfl) (by kernel_rfl) (Nat.le_of_ble_eq_true rfl) (by simp [Lf.Ty.top]) (by simp [Lf.Ty.top]) fun z r h=>(check_walk__operand_eq z.1 z.2).trans h
noncomputable def check_walk__pushCtx:Lf.Ctx:=⟨20,Tys,[],[],[],[],[],TysEq,[],some 4611686018427387904,TysIm,[]⟩
noncomputable def check_walk__pushCode:Go.Code:=(Go.Proofs.Tryz.f139.body).getD .skip
def check_walk__pushAnn:Lf.Ann:=(.seq .no (.seq (.draw 9) .no))
noncomputable def check_walk__push (a0:(((Int)×xT7)×xT155)×xT35) (a1:(Int)×xT7):Option xT160:=
 ((Lf.chk (32:Nat) a0.2.1)).bind fun r1=>
 ((Lf.nth (Lf.arL xY39 (32:Nat) a0.1) r1)).bind fun r2=>
 some ((Lf.arS xY39 (32:Nat) a0.1 r1 a1),((Go.IntKind.wrap .i64 (a0.2.1+(1:Int))),a0.2.2))
theorem check_walk__push_eq (a0:(((Int)×xT7)×xT155)×xT35) (a1:(Int)×xT7):Lf.fnE check_walk__pushCtx check_walk__pushCode check_walk__pushAnn [.obj 175 xY182 xY182 [], .val xY39] [] [] (a0,a1)=check_walk__push a0 a1:=by kernel_rfl
noncomputable def check_walk__pushEnt:Nat×Lf.Entry:=(139,⟨[.obj 175 xY182 xY182 [], .val xY39],[],fun z=>check_walk__push z.1 z.2⟩)
theorem check_walk__push_ok:Lf.EntryOk Go.Proofs.Tryz.prog GG 139 check_walk__pushEnt.2:=
 Lf.fn_ok (c:=check_walk__pushCtx) (code:=check_walk__pushCode) (an:=check_walk__pushAnn) (slots:=[]) (fn:=Go.Proofs.Tryz.f139) (by kernel_rfl) ⟨Tys_ok,Lf.FnsOk.look .nil,Lf.IpsOk.look .nil,TysEq_ok,TysIm_ok,Lf.IvsOk.look .nil,Lf.FxsOk.look .nil⟩ (by kernel_rfl) (by kernel_rfl) (by kernel_rfl) (by kernel_rfl) (by kernel_rfl) (Nat.le_of_ble_eq_true rfl) (by simp [Lf.Ty.top]) (by simp [Lf.Ty.top]) fun z r h=>(check_walk__push_eq z.1 z.2).trans h
noncomputable def check_walk__topCtx:Lf.Ctx:=⟨17,Tys,[],[],[],[],[],TysEq,[],some 4611686018427387904,TysIm,[]⟩
noncomputable def check_walk__topCode:Go.Code:=(Go.Proofs.Tryz.f138.body).getD .skip
def check_walk__topAnn:Lf.Ann:=(.seq .no (.seq .no (.seq (.draw 10) .no)))
noncomputable def check_walk__topP (a0:(((Int)×xT7)×xT155)×xT35):Option (Option Nat×xT160):=
 bif (decide ((a0.2.1:Int)=(0:Int))) then some ((none:Option (Nat)),a0)
 else ((Lf.chk (32:Nat) (Go.IntKind.wrap .i64 (a0.2.1 - (1:Int))))).bind fun r1=>
 some ((some r1),a0)
theorem check_walk__top_eq (a0:(((Int)×xT7)×xT155)×xT35):Lf.ipE check_walk__topCtx check_walk__topCode check_walk__topAnn 175 xY182 [] [.i, .l] 0 5 2 a0=check_walk__topP a0:=by kernel_rfl
noncomputable def check_walk__top (a0:(((Int)×xT7)×xT155)×xT35):Option (Option Nat):=(check_walk__topP a0).map (·.1)
theorem check_walk__top_same (a0:(((Int)×xT7)×xT155)×xT35):Lf.Same a0 (check_walk__topP a0):=by
 unfold check_walk__topP
 repeat' (first | exact Lf.Same.some | exact Lf.Same.none | refine Lf.Same.cond _ ?_ ?_ | refine Lf.Same.bind _ (fun _=>?_))
noncomputable def check_walk__topIp:Nat×Lf.Ip:=(138,⟨175,xY182,[],[.i, .l],0,5,fun z=>check_walk__top z⟩)
theorem check_walk__top_ok:Lf.IpOk Go.Proofs.Tryz.prog GG 138 check_walk__topIp.2:=
 Lf.ip_ok (c:=check_walk__topCtx) (code:=check_walk__topCode) (an:=check_walk__topAnn) (slot:=2) (fn:=Go.Proofs.Tryz.f138) (by kernel_rfl) ⟨Tys_ok,Lf.FnsOk.look .nil,Lf.IpsOk.look .nil,TysEq_ok,TysIm_ok,Lf.IvsOk.look .nil,Lf.FxsOk.look .nil⟩ (by kernel_rfl) (by kernel_rfl) (by kernel_rfl) (by kernel_rfl) (by kernel_rfl) (Nat.le_of_ble_eq_true rfl) (by kernel_rfl) fun z m h=>(check_walk__top_eq z).trans (Lf.Same.get (check_walk__top_same z) h)
noncomputable def check_walk__innerCtx:Lf.Ctx:=⟨124,Tys,[check_walk__pushEnt],[],[],[],[check_walk__topIp],TysEq,[],some 4611686018427387904,TysIm,[]⟩
noncomputable def check_walk__innerCode:Go.Code:=(Go.Proofs.Tryz.f137.body).getD .skip
def check_walk__innerAnn:Lf.Ann:=(.seq .no (.seq (.seq .no (.seq (.seq (.seq (.join (.more .nrm ⟨[],[(0, .ref 0 [] 0),(3, .ref 3 [] 0)],[],[(0,175,xY182),(3,64,xY44)],[]⟩ (.more (.ext 5) ⟨[],[(0, .ref 0 [] 0)],[],[(0,175,xY182)],[]⟩ (.more (.ext 6) ⟨[],[(0, .ref 0 [] 0)],[],[(0,175,xY182)],[]⟩ (.more (.ext 0) ⟨[],[(0, .ref 0 [] 0)],[],[(0,175,xY182)],[]⟩ (.one .ret ⟨[],[(0, .ref 0 [] 0)],[(4, .bool)],[(0,175,xY182)],[]⟩))))) (.seq (.seq (.seq (.seq (.seq .no (.seq (.seq (.join (.one .nrm ⟨[7],[(0, .ref 0 [] 0),(3, .ref 3 [] 0)],[(10, .bool)],[(0,175,xY182),(3,64,xY44)],[]⟩) .no) .no) (.seq (.seq (.join (.one .nrm ⟨[7],[(0, .ref 0 [] 0),(3, .ref 3 [] 0)],[(13, .bool)],[(0,175,xY182),(3,64,xY44)],[]⟩) .no) .no) .no))) .no) .no) .no) .no)) (.seq (.seq .no (.seq .no (.seq .no (.seq (.join (.one .nrm ⟨[],[(0, .ref 0 [] 0)],[],[(0,175,xY182)],[]⟩) .no) .no)))) .no)) (.seq (.seq .no (.seq (.join (.one .nrm ⟨[],[(0, .ref 0 [] 0)],[],[(0,175,xY182)],[]⟩) .no) .no)) .no)) (.seq (.seq .no (.seq .no (.seq .no (.seq (.join (.one .nrm ⟨[],[(0, .ref 0 [] 0)],[],[(0,175,xY182)],[]⟩) (.seq .no (.seq (.join (.one .nrm ⟨[5],[(0, .ref 0 [] 0)],[(116, .bool)],[(0,175,xY182)],[(5,0)]⟩) .no) .no))) .no)))) .no))) .no))
noncomputable def check_walk__inner (a0:(((Int)×xT7)×xT155)×xT35) (a1:(Int)×((Int)×xT4)):Option ((Bool)×xT160):=
 (bif (decide ((a1.2.2.1:Int)=(1:Int))) then some (.inr (.inr (.inr (.inr ((decide ((a0.2.2.2.2.2.1:Int)≠(1:Int))),a0)))))
  else (bif (decide ((a1.2.2.1:Int)=(6:Int))) then some ((decide ((a1.2.2.1:Int)=(6:Int))),(a0,a1))
   else some ((decide ((a1.2.2.1:Int)=(7:Int))),(a0,a1))).bind fun r1=>
  bif r1.1 then some (.inr (.inr (.inr (.inr (true,r1.2.1)))))
  else (bif (decide ((a1.2.2.1:Int)=(3:Int))) then some ((decide ((a1.2.2.1:Int)=(3:Int))),r1.2)
   else some ((decide ((a1.2.2.1:Int)=(4:Int))),r1.2)).bind fun r2=>
  bif r2.1 then bif (decide ((0:Int)<r2.2.1.2.2.2.2.1)) then some (.inr (.inr (.inr (.inr (false,r2.2.1)))))
  else some (.inl r2.2)
  else bif (decide ((a1.2.2.1:Int)=(2:Int))) then some (.inl r2.2)
  else bif (decide ((a1.2.2.1:Int)=(5:Int))) then some (.inr (.inl r2.2.1))
  else bif (decide ((a1.2.2.1:Int)=(9:Int))) then some (.inr (.inr (.inl r2.2.1)))
  else some (.inr (.inr (.inr (.inl r2.2.1)))):Option ((xT160×((Int)×((Int)×xT4)))⊕(xT160⊕(xT160⊕(xT160⊕((Bool)×xT160)))))).bind fun r3=>
 Lf.onSum r3 (fun a4=>
 bif (decide ((16:Int)≤a4.1.2.2.2.1)) then some (false,a4.1)
 else ((Go.Fn.check_walk__push a4.1 (a4.2.2.2.1,((0:Int),((0:Int),((0:Int),((0:Int),()))))))).bind fun r5=>
 (bif (decide ((a4.2.2.2.1:Int)≠(2:Int))) then some (Lf.u3 r5 ((Go.IntKind.wrap .i64 (r5.2.2.2.1+(1:Int))),((Go.IntKind.wrap .i64 (r5.2.2.2.2.1+(1:Int))),r5.2.2.2.2.2)))
  else some (Lf.u3 r5 ((Go.IntKind.wrap .i64 (r5.2.2.2.1+(1:Int))),r5.2.2.2.2))).bind fun r6=>
 some (true,r6)) (fun b7=>
 Lf.onSum b7 (fun a8=>
 bif (decide ((a8.2.2.2.1:Int)=(0:Int))) then some (false,a8)
 else (((Go.Fn.check_walk__top a8)).bind fun r9=>
  (r9).bind fun r10=>
  ((Lf.nth (Lf.arL xY39 (32:Nat) a8.1) r10)).bind fun r11=>
  bif (decide ((r11.1:Int)≠(2:Int))) then some (Lf.u4 a8 ((Go.IntKind.wrap .i64 (a8.2.2.2.2.1 - (1:Int))),a8.2.2.2.2.2))
  else some a8).bind fun r12=>
 some (true,(r12.1,((Go.IntKind.wrap .i64 (r12.2.1 - (1:Int))),(r12.2.2.1,((Go.IntKind.wrap .i64 (r12.2.2.2.1 - (1:Int))),r12.2.2.2.2)))))) (fun b13=>
 Lf.onSum b13 (fun a14=>
 bif (decide ((0:Int)<a14.2.2.2.1)) then some (false,a14)
 else (((Go.Fn.check_walk__top (a14.1,((Go.IntKind.wrap .i64 (a14.2.1 - (1:Int))),((0:Int),a14.2.2.2))))).bind fun r15=>
  (bif (Option.isSome r15) then (r15).bind fun r16=>
   ((Lf.nth (Lf.arL xY39 (32:Nat) a14.1) r16)).bind fun r17=>
   some ((decide ((r17.1:Int)=(12:Int))),(a14.1,((Go.IntKind.wrap .i64 (a14.2.1 - (1:Int))),((0:Int),a14.2.2.2))))
   else some (false,(a14.1,((Go.IntKind.wrap .i64 (a14.2.1 - (1:Int))),((0:Int),a14.2.2.2))))).bind fun r18=>
  bif r18.1 then (r15).bind fun r19=>
  ((Lf.nth (Lf.arL xY39 (32:Nat) r18.2.1) r19)).bind fun r20=>
  (r15).bind fun r21=>
  ((Lf.nth (Lf.arL xY39 (32:Nat) r18.2.1) r21)).bind fun r22=>
  some ((Lf.arS xY39 (32:Nat) r18.2.1 r21 (Lf.u3 r22 ((Go.IntKind.wrap .i64 (r20.2.2.2.1+(1:Int))),r22.2.2.2.2))),r18.2.2)
  else some r18.2).bind fun r23=>
 some (true,r23)) (fun b24=>
 Lf.onSum b24 (fun a25=>
 some (false,a25)) (fun b26=>
 some b26))))
theorem check_walk__inner_eq (a0:(((Int)×xT7)×xT155)×xT35) (a1:(Int)×((Int)×xT4)):Lf.fnE check_walk__innerCtx check_walk__innerCode check_walk__innerAnn [.obj 175 xY182 xY182 [], .val xY44] [.bool] [.tmp 4] (a0,a1)=check_walk__inner a0 a1:=by kernel_rfl
noncomputable def check_walk__innerEnt:Nat×Lf.Entry:=(137,⟨[.obj 175 xY182 xY182 [], .val xY44],[.bool],fun z=>check_walk__inner z.1 z.2⟩)
theorem check_walk__inner_ok:Lf.EntryOk Go.Proofs.Tryz.prog GG 137 check_walk__innerEnt.2:=
 Lf.fn_ok (c:=check_walk__innerCtx) (code:=check_walk__innerCode) (an:=check_walk__innerAnn) (slots:=[.tmp 4]) (fn:=Go.Proofs.Tryz.f137) (by kernel_rfl) ⟨Tys_ok,Lf.FnsOk.look (.con check_walk__push_ok .nil),Lf.IpsOk.look (.con check_walk__top_ok .nil),TysEq_ok,TysIm_ok,Lf.IvsOk.look .nil,Lf.FxsOk.look .nil⟩ (by kernel_rfl) (by kernel_rfl) (by kernel_rfl) (by kernel_rfl) (by kernel_rfl) (Nat.le_of_ble_eq_true rfl) (by simp [Lf.Ty.top]) (by simp [Lf.Ty.top]) fun z r h=>(check_walk__inner_eq z.1 z.2).trans h
noncomputable def check_walk__placeCtx:Lf.Ctx:=⟨178,Tys,[check_walk__innerEnt,check_walk__pushEnt],[],[],[],[check_walk__topIp],TysEq,[],some 4611686018427387904,TysIm,[]⟩
noncomputable def check_walk__placeCode:Go.Code:=(Go.Proofs.Tryz.f106.body).getD .skip
def check_walk__placeAnn:Lf.Ann:=(.seq .no (.seq .no (.seq .no (.seq (.join (.one .nrm ⟨[5],[(0, .ref 0 [] 0),(3, .ref 3 [] 0)],[(6, .bool)],[(0,175,xY182),(3,64,xY44)],[(5,0)]⟩) .no) (.seq (.join (.one .nrm ⟨[5,6],[(0, .ref 0 [] 0),(3, .ref 3 [] 0)],[(7, .bool)],[(0,175,xY182),(3,64,xY44)],[(5,0)]⟩) (.draw 28)) (.seq (.join (.more .ret ⟨[],[(0, .ref 0 [] 0)],[(4, .bool)],[(0,175,xY182)],[]⟩ (.one .nrm ⟨[],[(0, .ref 0 [] 0)],[],[(0,175,xY182)],[]⟩)) (.seq .no (.seq .no (.cnd .no (.seq .no (.cnd (.seq (.seq (.join (.one .nrm ⟨[],[(0, .ref 0 [] 0),(3, .ref 3 [] 0)],[(78, .bool)],[(0,175,xY182),(3,64,xY44)],[]⟩) .no) .no) .no) (.seq .no (.cnd (.seq (.seq (.join (.one .nrm ⟨[],[(0, .ref 0 [] 0),(3, .ref 3 [] 0)],[(101, .bool)],[(0,175,xY182),(3,64,xY44)],[]⟩) .no) .no) .no) (.seq .no (.cnd (.seq (.seq (.join (.one .nrm ⟨[5],[(0, .ref 0 [] 0)],[(117, .bool)],[(0,175,xY182)],[(5,0)]⟩) .no) .no) .no) (.seq .no (.cnd .no (.seq (.join (.one .nrm ⟨[5,7],[(0, .ref 0 [] 0),(3, .ref 3 [] 0)],[(137, .bool)],[(0,175,xY182),(3,64,xY44)],[(5,0)]⟩) .no) (.cnd (.seq (.seq (.join (.one .nrm ⟨[5],[(0, .ref 0 [] 0),(3, .ref 3 [] 0)],[(156, .bool)],[(0,175,xY182),(3,64,xY44)],[(5,0)]⟩) .no) .no) .no) .no)))))))))))))) .no))))))
noncomputable def check_walk__place (a0:(((Int)×xT7)×xT155)×xT35) (a1:(Int)×((Int)×xT4)):Option ((Bool)×xT160):=
 bif (decide ((a0.2.2.1:Int)=(1:Int))) then ((Go.Fn.check_walk__inner a0 a1)).bind fun r1=>
 some r1
 else ((Go.Fn.check_walk__top a0)).bind fun r2=>
 (bif (Option.isSome r2) then (r2).bind fun r3=>
  ((Lf.nth (Lf.arL xY39 (32:Nat) a0.1) r3)).bind fun r4=>
  bif (decide ((r4.1:Int)=(10:Int))) then (r2).bind fun r5=>
  ((Lf.nth (Lf.arL xY39 (32:Nat) a0.1) r5)).bind fun r6=>
  some ((decide ((0:Int)<r6.2.1)),(a0,a1))
  else some (false,(a0,a1))
  else some (false,(a0,a1))).bind fun r7=>
 (bif (Option.isSome r2) then (r2).bind fun r8=>
  ((Lf.nth (Lf.arL xY39 (32:Nat) r7.2.1.1) r8)).bind fun r9=>
  bif (decide ((r9.1:Int)=(12:Int))) then (r2).bind fun r10=>
  ((Lf.nth (Lf.arL xY39 (32:Nat) r7.2.1.1) r10)).bind fun r11=>
  bif (decide ((0:Int)<r11.2.2.1)) then (r2).bind fun r12=>
  ((Lf.nth (Lf.arL xY39 (32:Nat) r7.2.1.1) r12)).bind fun r13=>
  (r2).bind fun r14=>
  ((Lf.nth (Lf.arL xY39 (32:Nat) r7.2.1.1) r14)).bind fun r15=>
  some ((decide (r13.2.2.2.1<r15.2.2.2.2.1)),r7.2)
  else some (false,r7.2)
  else some (false,r7.2)
  else some (false,r7.2)).bind fun r16=>
 (bif (decide ((r16.2.2.2.2.1:Int)=(15:Int))) then some (.inl ((Option.isNone r2),r16.2.1))
  else bif (decide ((r16.2.2.2.2.1:Int)=(8:Int))) then (bif (Option.isSome r2) then bif (!r7.1) then some ((!r16.1),r16.2)
   else some (false,r16.2)
   else some (false,r16.2)).bind fun r17=>
  bif r17.1 then some (.inl (false,r17.2.1))
  else ((Go.Fn.check_walk__push r17.2.1 (r17.2.2.2.2.1,((0:Int),((0:Int),((0:Int),((0:Int),()))))))).bind fun r18=>
  some (.inr (Lf.u2 r18 ((1:Int),r18.2.2.2)))
  else bif (decide ((r16.2.2.2.2.1:Int)=(10:Int))) then (bif (Option.isSome r2) then bif (!(!r7.1)) then some ((decide ((8:Int)≤r16.2.1.2.1)),r16.2)
   else some (true,r16.2)
   else some ((decide ((8:Int)≤r16.2.1.2.1)),r16.2)).bind fun r19=>
  bif r19.1 then some (.inl (false,r19.2.1))
  else ((Go.Fn.check_walk__push r19.2.1 (r19.2.2.2.2.1,((0:Int),((0:Int),((0:Int),((0:Int),()))))))).bind fun r20=>
  some (.inr r20)
  else bif (decide ((r16.2.2.2.2.1:Int)=(11:Int))) then (bif (!(Option.isNone r2)) then (r2).bind fun r21=>
   ((Lf.nth (Lf.arL xY39 (32:Nat) r16.2.1.1) r21)).bind fun r22=>
   some ((decide ((r22.1:Int)≠(10:Int))),r16.2.1)
   else some (true,r16.2.1)).bind fun r23=>
  bif r23.1 then some (.inl (false,r23.2))
  else (r2).bind fun r24=>
  ((Lf.nth (Lf.arL xY39 (32:Nat) r23.2.1) r24)).bind fun r25=>
  (r2).bind fun r26=>
  ((Lf.nth (Lf.arL xY39 (32:Nat) r23.2.1) r26)).bind fun r27=>
  some (.inr ((Lf.arS xY39 (32:Nat) r23.2.1 r26 (r27.1,((Go.IntKind.wrap .i64 (r25.2.1+(1:Int))),r27.2.2))),r23.2.2))
  else bif (decide ((r16.2.2.2.2.1:Int)=(12:Int))) then bif (Option.isSome r2) then some (.inl (false,r16.2.1))
  else ((Go.Fn.check_walk__push r16.2.1 (r16.2.2.2.2.1,((0:Int),((0:Int),((0:Int),((((List.length r16.2.2.2.2.2.2.1):Nat):Int),()))))))).bind fun r28=>
  some (.inr r28)
  else (bif (decide ((r16.2.2.2.2.1:Int)=(13:Int))) then some ((decide ((r16.2.2.2.2.1:Int)=(13:Int))),r16.2)
   else some ((decide ((r16.2.2.2.2.1:Int)=(14:Int))),r16.2)).bind fun r29=>
  bif r29.1 then (bif (!(Option.isNone r2)) then bif (!r16.1) then bif (decide ((r29.2.2.2.2.1:Int)=(13:Int))) then (r2).bind fun r30=>
   ((Lf.nth (Lf.arL xY39 (32:Nat) r29.2.1.1) r30)).bind fun r31=>
   some ((decide ((r31.1:Int)≠(12:Int))),r29.2)
   else some (false,r29.2)
   else some (true,r29.2)
   else some (true,r29.2)).bind fun r32=>
  bif r32.1 then some (.inl (false,r32.2.1))
  else bif (decide ((r32.2.2.2.2.1:Int)=(14:Int))) then some (.inr (r32.2.1.1,((Go.IntKind.wrap .i64 (r32.2.1.2.1 - (1:Int))),r32.2.1.2.2)))
  else (r2).bind fun r33=>
  ((Lf.nth (Lf.arL xY39 (32:Nat) r32.2.1.1) r33)).bind fun r34=>
  (r2).bind fun r35=>
  ((Lf.nth (Lf.arL xY39 (32:Nat) r32.2.1.1) r35)).bind fun r36=>
  (r2).bind fun r37=>
  ((Lf.nth (Lf.arL xY39 (32:Nat) (Lf.arS xY39 (32:Nat) r32.2.1.1 r35 (Lf.u2 r36 ((Go.IntKind.wrap .i64 (r34.2.2.1+(1:Int))),r36.2.2.2)))) r37)).bind fun r38=>
  some (.inr ((Lf.arS xY39 (32:Nat) (Lf.arS xY39 (32:Nat) r32.2.1.1 r35 (Lf.u2 r36 ((Go.IntKind.wrap .i64 (r34.2.2.1+(1:Int))),r36.2.2.2))) r37 (Lf.u3 r38 ((0:Int),r38.2.2.2.2))),r32.2.1.2))
  else some (.inl (false,r29.2.1)):Option (((Bool)×xT160)⊕xT160)).bind fun r39=>
 Lf.onSum r39 (fun a40=>
 some a40) (fun b41=>
 some (true,b41))
theorem check_walk__place_eq (a0:(((Int)×xT7)×xT155)×xT35) (a1:(Int)×((Int)×xT4)):Lf.fnE check_walk__placeCtx check_walk__placeCode check_walk__placeAnn [.obj 175 xY182 xY182 [], .val xY44] [.bool] [.tmp 4] (a0,a1)=check_walk__place a0 a1:=by kernel_rfl
noncomputable def check_walk__placeEnt:Nat×Lf.Entry:=(106,⟨[.obj 175 xY182 xY182 [], .val xY44],[.bool],fun z=>check_walk__place z.1 z.2⟩)
theorem check_walk__place_ok:Lf.EntryOk Go.Proofs.Tryz.prog GG 106 check_walk__placeEnt.2:=
 Lf.fn_ok (c:=check_walk__placeCtx) (code:=check_walk__placeCode) (an:=check_walk__placeAnn) (slots:=[.tmp 4]) (fn:=Go.Proofs.Tryz.f106) (by kernel_rfl) ⟨Tys_ok,Lf.FnsOk.look (.con check_walk__inner_ok (.con check_walk__push_ok .nil)),Lf.IpsOk.look (.con check_walk__top_ok .nil),TysEq_ok,TysIm_ok,Lf.IvsOk.look .nil,Lf.FxsOk.look .nil⟩ (by kernel_rfl) (by kernel_rfl) (by kernel_rfl) (by kernel_rfl) (by kernel_rfl) (Nat.le_of_ble_eq_true rfl) (by simp [Lf.Ty.top]) (by simp [Lf.Ty.top]) fun z r h=>(check_walk__place_eq z.1 z.2).trans h
noncomputable def text_controlCtx:Lf.Ctx:=⟨13,Tys,[],[],[],[],[],TysEq,[],some 4611686018427387904,TysIm,[]⟩
noncomputable def text_controlCode:Go.Code:=(Go.Proofs.Tryz.f164.body).getD .skip
def text_controlAnn:Lf.Ann:=(.seq .no (.seq (.join (.one .nrm ⟨[],[],[(2, .bool)],[],[]⟩) .no) .no))
noncomputable def text_control (a0:Int):Option (Bool):=
 (bif (!(decide (a0<(32:Int)))) then bif (decide ((127:Int)≤a0)) then some (decide (a0≤(159:Int)))
  else some false
  else some true).bind fun r1=>
 some r1
theorem text_control_eq (a0:Int):Lf.fnE text_controlCtx text_controlCode text_controlAnn [.val (.int .i32)] [.bool] [.tmp 2] (a0)=text_control a0:=by kernel_rfl
noncomputable def text_controlEnt:Nat×Lf.Entry:=(164,⟨[.val (.int .i32)],[.bool],fun z=>text_control z⟩)
theorem text_control_ok:Lf.EntryOk Go.Proofs.Tryz.prog GG 164 text_controlEnt.2:=
 Lf.fn_ok (c:=text_controlCtx) (code:=text_controlCode) (an:=text_controlAnn) (slots:=[.tmp 2]) (fn:=Go.Proofs.Tryz.f164) (by kernel_rfl) ⟨Tys_ok,Lf.FnsOk.look .nil,Lf.IpsOk.look .nil,TysEq_ok,TysIm_ok,Lf.IvsOk.look .nil,Lf.FxsOk.look .nil⟩ (by kernel_rfl) (by kernel_rfl) (by kernel_rfl) (by kernel_rfl) (by kernel_rfl) (Nat.le_of_ble_eq_true rfl) (by simp [Lf.Ty.top]) (by simp [Lf.Ty.top]) fun z r h=>(text_control_eq z).trans h
noncomputable def text_badCtx:Lf.Ctx:=⟨20,Tys,[utf8_DecodeEnt],[],[],[],[],TysEq,[],some 4611686018427387904,TysIm,[]⟩
noncomputable def text_badCode:Go.Code:=(Go.Proofs.Tryz.f165.body).getD .skip
def text_badAnn:Lf.Ann:=(.seq .no (.seq .no (.seq (.join (.one .nrm ⟨[],[],[(4, .bool)],[],[]⟩) .no) .no)))
noncomputable def text_bad (a0:List (UInt8)) (a1:Int):Option (Bool):=
 ((Lf.sub a0 a1 (((List.length a0):Nat):Int))).bind fun r1=>
 ((Go.Fn.utf8_Decode r1)).bind fun r2=>
 (bif (decide ((r2.1:Int)=(65533:Int))) then some (decide ((r2.2:Int)=(1:Int)))
  else some false).bind fun r3=>
 some r3
theorem text_bad_eq (a0:List (UInt8)) (a1:Int):Lf.fnE text_badCtx text_badCode text_badAnn [.val .str, .val (.int .i64)] [.bool] [.tmp 4] (a0,a1)=text_bad a0 a1:=by kernel_rfl
noncomputable def text_badEnt:Nat×Lf.Entry:=(165,⟨[.val .str, .val (.int .i64)],[.bool],fun z=>text_bad z.1 z.2⟩)
theorem text_bad_ok:Lf.EntryOk Go.Proofs.Tryz.prog GG 165 text_badEnt.2:=
 Lf.fn_ok (c:=text_badCtx) (code:=text_badCode) (an:=text_badAnn) (slots:=[.tmp 4]) (fn:=Go.Proofs.Tryz.f165) (by kernel_rfl) ⟨Tys_ok,Lf.FnsOk.look (.con utf8_Decode_ok .nil),Lf.IpsOk.look .nil,TysEq_ok,TysIm_ok,Lf.IvsOk.look .nil,Lf.FxsOk.look .nil⟩ (by kernel_rfl) (by kernel_rfl) (by kernel_rfl) (by kernel_rfl) (by kernel_rfl) (Nat.le_of_ble_eq_true rfl) (by simp [Lf.Ty.top]) (by simp [Lf.Ty.top]) fun z r h=>(text_bad_eq z.1 z.2).trans h
noncomputable def text_PlainCtx:Lf.Ctx:=⟨24,Tys,[text_controlEnt,text_badEnt],[],[],[],[],TysEq,[],some 4611686018427387904,TysIm,[]⟩
noncomputable def text_PlainCode:Go.Code:=(Go.Proofs.Tryz.f140.body).getD .skip
def text_PlainAnn:Lf.Ann:=(.seq .no (.seq (.seq .no (.loop ⟨[0],[],[(7, .it)],[],[]⟩ (.more .ret ⟨[],[],[(2,(.int .i64)),(3, .bool)],[],[]⟩ (.one (.ext 0) ⟨[],[],[],[],[]⟩)) (.seq .no (.seq .no (.seq .no (.seq (.join (.one .nrm ⟨[4,0],[],[(22, .bool),(7, .it)],[],[]⟩) .no) .no)))))) .no))
noncomputable def text_Plain (a0:List (UInt8)):Option ((Int)×(Bool)):=
 (Lf.loopU (σ:=(List (UInt8))×(Int)) (κ:=((Int)×(Bool))⊕(Unit)) (fun z1=>
   bif (decide (z1.2<(((List.length z1.1):Nat):Int))) then (((Go.Fn.text_control (Lf.runeAt z1.1 z1.2))).bind fun r2=>
    bif (!r2) then bif (decide (((Lf.runeAt z1.1 z1.2):Int)=(65533:Int))) then ((Go.Fn.text_bad a0 z1.2)).bind fun r3=>
    some (r3,(z1.1,(z1.2+(Lf.runeW z1.1 z1.2))))
    else some (false,(z1.1,(z1.2+(Lf.runeW z1.1 z1.2))))
    else some (true,(z1.1,(z1.2+(Lf.runeW z1.1 z1.2))))).bind fun r4=>
   bif r4.1 then some (.inr (.inl (z1.2,false)))
   else some (.inl r4.2)
   else some (.inr (.inr ()))) (a0,(0:Int)):Option (((Int)×(Bool))⊕(Unit))).bind fun r5=>
 Lf.onSum r5 (fun a6=>
 some a6) (fun b7=>
 some ((0:Int),true))
theorem text_Plain_eq (a0:List (UInt8)):Lf.fnE text_PlainCtx text_PlainCode text_PlainAnn [.val .str] [(.int .i64), .bool] [.tmp 2, .tmp 3] (a0)=text_Plain a0:=by kernel_rfl
noncomputable def text_PlainEnt:Nat×Lf.Entry:=(140,⟨[.val .str],[(.int .i64), .bool],fun z=>text_Plain z⟩)
theorem text_Plain_ok:Lf.EntryOk Go.Proofs.Tryz.prog GG 140 text_PlainEnt.2:=
 Lf.fn_ok (c:=text_PlainCtx) (code:=text_PlainCode) (an:=text_PlainAnn) (slots:=[.tmp 2, .tmp 3]) (fn:=Go.Proofs.Tryz.f140) (by kernel_rfl) ⟨Tys_ok,Lf.FnsOk.look (.con text_control_ok (.con text_bad_ok .nil)),Lf.IpsOk.look .nil,TysEq_ok,TysIm_ok,Lf.IvsOk.look .nil,Lf.FxsOk.look .nil⟩ (by kernel_rfl) (by kernel_rfl) (by kernel_rfl) (by kernel_rfl) (by kernel_rfl) (Nat.le_of_ble_eq_true rfl) (by simp [Lf.Ty.top]) (by simp [Lf.Ty.top]) fun z r h=>(text_Plain_eq z).trans h
noncomputable def check_walk__textsCtx:Lf.Ctx:=⟨48,Tys,[text_PlainEnt],[26],[],[],[],TysEq,[],some 4611686018427387904,TysIm,[]⟩
noncomputable def check_walk__textsCode:Go.Code:=(Go.Proofs.Tryz.f107.body).getD .skip
def check_walk__textsAnn:Lf.Ann:=(.seq .no (.seq (.seq .no (.seq .no (.cnd .no (.seq .no (.cnd (.seq (.seq (.draw 8) .no) (.seq (.draw 13) (.seq (.draw 10) .no))) .no))))) .no))
noncomputable def check_walk__texts (a0:(((Int)×xT7)×xT155)×xT35) (a1:(Int)×((Int)×xT4)):Option ((Bool)×xT160):=
 bif (decide ((a1.2.2.1:Int)=(15:Int))) then some ((decide ((a0.2.2.2.2.2.2.1:List (UInt8))=([]:List (UInt8)))),a0)
 else bif (decide ((a1.2.2.1:Int)=(1:Int))) then bif (decide ((((List.length a0.2.2.2.2.2.2.1):Nat):Int)<a1.2.2.2.1)) then some (false,a0)
 else ((Lf.sub a0.2.2.2.2.2.2.1 (0:Int) a1.2.2.2.1)).bind fun r1=>
 ((Go.Fn.text_Plain r1)).bind fun r2=>
 ((Lf.sub a0.2.2.2.2.2.2.1 a1.2.2.2.1 (((List.length a0.2.2.2.2.2.2.1):Nat):Int))).bind fun r3=>
 some (r2.2,(a0.1,(a0.2.1,(a0.2.2.1,(a0.2.2.2.1,(a0.2.2.2.2.1,(a0.2.2.2.2.2.1,(r3,a0.2.2.2.2.2.2.2))))))))
 else some (true,a0)
theorem check_walk__texts_eq (a0:(((Int)×xT7)×xT155)×xT35) (a1:(Int)×((Int)×xT4)):Lf.fnE check_walk__textsCtx check_walk__textsCode check_walk__textsAnn [.obj 175 xY182 xY182 [], .val xY44] [.bool] [.tmp 4] (a0,a1)=check_walk__texts a0 a1:=by kernel_rfl
noncomputable def check_walk__textsEnt:Nat×Lf.Entry:=(107,⟨[.obj 175 xY182 xY182 [], .val xY44],[.bool],fun z=>check_walk__texts z.1 z.2⟩)
theorem check_walk__texts_ok:Lf.EntryOk Go.Proofs.Tryz.prog GG 107 check_walk__textsEnt.2:=
 Lf.fn_ok (c:=check_walk__textsCtx) (code:=check_walk__textsCode) (an:=check_walk__textsAnn) (slots:=[.tmp 4]) (fn:=Go.Proofs.Tryz.f107) (by kernel_rfl) ⟨Tys_ok,Lf.FnsOk.look (.con text_Plain_ok .nil),Lf.IpsOk.look .nil,TysEq_ok,TysIm_ok,Lf.IvsOk.look .nil,Lf.FxsOk.look .nil⟩ (by kernel_rfl) (by kernel_rfl) (by kernel_rfl) (by kernel_rfl) (by kernel_rfl) (Nat.le_of_ble_eq_true rfl) (by simp [Lf.Ty.top]) (by simp [Lf.Ty.top]) fun z r h=>(check_walk__texts_eq z.1 z.2).trans h
noncomputable def check_runCtx:Lf.Ctx:=⟨109,Tys,[code_InstrsEnt,check_walk__operandEnt,check_walk__placeEnt,check_walk__textsEnt],[9,19,49],[],[(9,(.rw 3 (.int .i64))),(49,(.rw 3 (.int .i64))),(5000061, .dead 15 .unit),(5000069, .dead 15 .unit),(5000077, .dead 15 .unit)],[],TysEq,[],some 4611686018427387904,TysIm,[]⟩
noncomputable def check_runCode:Go.Code:=(Go.Proofs.Tryz.f67.body).getD .skip
def check_runAnn:Lf.Ann:=(.seq .no (.seq .no (.seq .no (.seq .no (.seq .no (.seq .no (.seq .no (.seq (.seq .no (.loop ⟨[43,44],[(8, .ref 8 [] 0),(13, .ref 36 [] 0)],[(45,(.int .i64)),(9,(.rw 3 (.int .i64))),(10,(.int .i64)),(11,(.int .i64))],[(8,133,xY39),(36,175,xY182)],[]⟩ (.more (.ext 0) ⟨[],[(8, .ref 8 [] 0)],[(9,(.rw 3 (.int .i64))),(10,(.int .i64)),(11,(.int .i64))],[(8,133,xY39)],[]⟩ (.one .ret ⟨[],[(8, .ref 8 [] 0)],[(9,(.rw 3 (.int .i64))),(10,(.int .i64)),(11,(.int .i64))],[(8,133,xY39)],[]⟩)) (.seq .no (.seq .no (.seq (.seq .no (.seq .no (.seq (.seq .no (.cnd (.seq (.fzo 15 [] (.perm [1,2,0,3,4,5,6] (.wt 4 [0,1] (.draws 2 3)))) .no) (.seq .no (.cnd (.seq (.fzo 15 [] (.perm [1,2,0,3,4,5,6] (.wt 4 [0,1] (.draws 2 3)))) .no) (.seq .no (.cnd (.seq (.fzo 15 [] (.perm [1,2,0,3,4,5,6] (.wt 4 [0,1] (.draws 2 3)))) .no) .no)))))) (.seq (.draw 8) (.seq (.join (.one .nrm ⟨[43,10,11,44,45],[(8, .ref 8 [] 0),(13, .ref 36 [] 0),(15, .ref 15 [] 0)],[(9,(.rw 3 (.int .i64)))],[(8,133,xY39),(36,175,xY182),(15,64,xY44)],[]⟩) (.seq .no (.seq (.join (.one .nrm ⟨[43,10,11,44,45,89],[(8, .ref 8 [] 0),(13, .ref 36 [] 0),(15, .ref 15 [] 0)],[(90, .bool),(9,(.rw 3 (.int .i64)))],[(8,133,xY39),(36,175,xY182),(15,64,xY44)],[]⟩) .no) .no))) .no))))) .no))))) .no))))))))
noncomputable def check_run (a0:List (Int)) (a1:List (UInt8)) (a2:Int) (a3:Int):Option (((Int)×xT7)×((List (Int))×((Int)×(Int)))):=
 bif (decide ((16384:Int)<(((List.length a1):Nat):Int))) then some (((0:Int),((0:Int),((0:Int),((0:Int),((0:Int),()))))),(([]:List (Int)),((0:Int),(2:Int))))
 else ((Go.Fn.code_Instrs a0)).bind fun r1=>
 bif (decide ((r1.2.2:Int)≠(0:Int))) then some (((0:Int),((0:Int),((0:Int),((0:Int),((0:Int),()))))),(([]:List (Int)),r1.2))
 else bif (decide ((65536:Int)<(Go.IntKind.wrap .i64 ((((List.length r1.1):Nat):Int) - (1:Int))))) then some (((0:Int),((0:Int),((0:Int),((0:Int),((0:Int),()))))),(([]:List (Int)),((0:Int),(2:Int))))
 else (Lf.loopU (σ:=(Int)×((List (Int))×((Int)×((Int)×(((Int)×xT7)×xT160))))) (κ:=xT34⊕xT34) (fun z2=>
   bif (decide (z2.1<(((List.length r1.1):Nat):Int))) then ((Lf.idx r1.1 z2.1)).bind fun r3=>
   ((Lf.app (8:Nat) z2.2.1 (z2.2.2.2.2.2.2.1::([]:List (Int))))).bind fun r4=>
   ((Go.Fn.check_walk__operand z2.2.2.2.2.2 r3)).bind fun r5=>
   bif (!r5.1) then some (.inr (.inr (([]:List (Int)),(r3.1,((161:Int),z2.2.2.2.2.1)))))
   else ((Go.Fn.check_walk__place r5.2 r3)).bind fun r6=>
   bif (!r6.1) then some (.inr (.inr (([]:List (Int)),(r3.1,((170:Int),z2.2.2.2.2.1)))))
   else ((Go.Fn.check_walk__texts r6.2 r3)).bind fun r7=>
   bif (!r7.1) then some (.inr (.inr (([]:List (Int)),(r3.1,((171:Int),z2.2.2.2.2.1)))))
   else ((bif (decide ((r3.2.2.1:Int)=(3:Int))) then some ((decide ((r3.2.2.1:Int)=(3:Int))),(r4,((Lf.u4 z2.2.2.2.2.1 ((Max.max z2.2.2.2.2.1.2.2.2.2.1 r7.2.2.1),z2.2.2.2.2.1.2.2.2.2.2)),(r7.2,r3))))
     else some ((decide ((r3.2.2.1:Int)=(4:Int))),(r4,((Lf.u4 z2.2.2.2.2.1 ((Max.max z2.2.2.2.2.1.2.2.2.2.1 r7.2.2.1),z2.2.2.2.2.1.2.2.2.2.2)),(r7.2,r3))))).bind fun r8=>
    bif r8.1 then some (r8.2.1,((Lf.u2 r8.2.2.1 ((Go.IntKind.wrap .i64 (r8.2.2.1.2.2.1+(1:Int))),r8.2.2.1.2.2.2)),r8.2.2.2))
    else bif (decide ((r3.2.2.1:Int)=(8:Int))) then some (r8.2.1,((Lf.u3 r8.2.2.1 ((Go.IntKind.wrap .i64 (r8.2.2.1.2.2.2.1+(1:Int))),r8.2.2.1.2.2.2.2)),r8.2.2.2))
    else some r8.2).bind fun r9=>
   some (.inl ((Go.IntKind.wrap .i64 (z2.1+(1:Int))),(r9.1,(z2.2.2.1,(z2.2.2.2.1,(r9.2.1,(r9.2.2.1.1,(r9.2.2.1.2.1,(r9.2.2.1.2.2.1,(r9.2.2.1.2.2.2.1,(r9.2.2.1.2.2.2.2.1,(r9.2.2.2.2.2.1,r9.2.2.1.2.2.2.2.2.2))))))))))))
   else some (.inr (.inl (Lf.u3 z2.2 z2.2.2.2.2.1)))) ((0:Int),(([]:List (Int)),(r1.2.1,(r1.2.2,(((Go.IntKind.wrap .i64 ((((List.length r1.1):Nat):Int) - (1:Int))),((((List.length a1):Nat):Int),((0:Int),((0:Int),((0:Int),()))))),((((0:Int),((0:Int),((0:Int),((0:Int),((0:Int),()))))),(((0:Int),((0:Int),((0:Int),((0:Int),((0:Int),()))))),(((0:Int),((0:Int),((0:Int),((0:Int),((0:Int),()))))),(((0:Int),((0:Int),((0:Int),((0:Int),((0:Int),()))))),(((0:Int),((0:Int),((0:Int),((0:Int),((0:Int),()))))),(((0:Int),((0:Int),((0:Int),((0:Int),((0:Int),()))))),(((0:Int),((0:Int),((0:Int),((0:Int),((0:Int),()))))),(((0:Int),((0:Int),((0:Int),((0:Int),((0:Int),()))))),(((0:Int),((0:Int),((0:Int),((0:Int),((0:Int),()))))),(((0:Int),((0:Int),((0:Int),((0:Int),((0:Int),()))))),(((0:Int),((0:Int),((0:Int),((0:Int),((0:Int),()))))),(((0:Int),((0:Int),((0:Int),((0:Int),((0:Int),()))))),(((0:Int),((0:Int),((0:Int),((0:Int),((0:Int),()))))),(((0:Int),((0:Int),((0:Int),((0:Int),((0:Int),()))))),(((0:Int),((0:Int),((0:Int),((0:Int),((0:Int),()))))),(((0:Int),((0:Int),((0:Int),((0:Int),((0:Int),()))))),(((0:Int),((0:Int),((0:Int),((0:Int),((0:Int),()))))),(((0:Int),((0:Int),((0:Int),((0:Int),((0:Int),()))))),(((0:Int),((0:Int),((0:Int),((0:Int),((0:Int),()))))),(((0:Int),((0:Int),((0:Int),((0:Int),((0:Int),()))))),(((0:Int),((0:Int),((0:Int),((0:Int),((0:Int),()))))),(((0:Int),((0:Int),((0:Int),((0:Int),((0:Int),()))))),(((0:Int),((0:Int),((0:Int),((0:Int),((0:Int),()))))),(((0:Int),((0:Int),((0:Int),((0:Int),((0:Int),()))))),(((0:Int),((0:Int),((0:Int),((0:Int),((0:Int),()))))),(((0:Int),((0:Int),((0:Int),((0:Int),((0:Int),()))))),(((0:Int),((0:Int),((0:Int),((0:Int),((0:Int),()))))),(((0:Int),((0:Int),((0:Int),((0:Int),((0:Int),()))))),(((0:Int),((0:Int),((0:Int),((0:Int),((0:Int),()))))),(((0:Int),((0:Int),((0:Int),((0:Int),((0:Int),()))))),(((0:Int),((0:Int),((0:Int),((0:Int),((0:Int),()))))),(((0:Int),((0:Int),((0:Int),((0:Int),((0:Int),()))))),())))))))))))))))))))))))))))))))),((0:Int),((0:Int),((0:Int),((0:Int),((0:Int),(a1,(a2,(a3,())))))))))))))):Option (xT34⊕xT34)).bind fun r10=>
 Lf.onSum r10 (fun a11=>
 some (a11.2.2.2,(a11.1,(a11.2.1,a11.2.2.1)))) (fun b12=>
 some (b12.2.2.2,(b12.1,(b12.2.1,b12.2.2.1))))
theorem check_run_eq (a0:List (Int)) (a1:List (UInt8)) (a2:Int) (a3:Int):Lf.fnE check_runCtx check_runCode check_runAnn [.val (.sl (.int .u8)), .val .str, .val (.int .i64), .val (.int .i64)] [xY39,(.rw 3 (.int .i64)),(.int .i64),(.int .i64)] [.cell 8 133, .tmp 9, .tmp 10, .tmp 11] (a0,a1,a2,a3)=check_run a0 a1 a2 a3:=by kernel_rfl
noncomputable def check_runEnt:Nat×Lf.Entry:=(67,⟨[.val (.sl (.int .u8)), .val .str, .val (.int .i64), .val (.int .i64)],[xY39,(.rw 3 (.int .i64)),(.int .i64),(.int .i64)],fun z=>check_run z.1 z.2.1 z.2.2.1 z.2.2.2⟩)
theorem check_run_ok:Lf.EntryOk Go.Proofs.Tryz.prog GG 67 check_runEnt.2:=
 Lf.fn_ok (c:=check_runCtx) (code:=check_runCode) (an:=check_runAnn) (slots:=[.cell 8 133, .tmp 9, .tmp 10, .tmp 11]) (fn:=Go.Proofs.Tryz.f67) (by kernel_rfl) ⟨Tys_ok,Lf.FnsOk.look (.con code_Instrs_ok (.con check_walk__operand_ok (.con check_walk__place_ok (.con check_walk__texts_ok .nil)))),Lf.IpsOk.look .nil,TysEq_ok,TysIm_ok,Lf.IvsOk.look .nil,Lf.FxsOk.look .nil⟩ (by kernel_rfl) (by kernel_rfl) (by kernel_rfl) (by kernel_rfl) (by kernel_rfl) (Nat.le_of_ble_eq_true rfl) (by simp [Lf.Ty.top]) (by simp [Lf.Ty.top]) fun z r h=>(check_run_eq z.1 z.2.1 z.2.2.1 z.2.2.2).trans h
noncomputable def style_namedCtx:Lf.Ctx:=⟨28,Tys,[],[],[],[],[],TysEq,[],some 4611686018427387904,TysIm,[]⟩
noncomputable def style_namedCode:Go.Code:=(Go.Proofs.Tryz.f63.body).getD .skip
def style_namedAnn:Lf.Ann:=(.seq .no (.seq (.seq (.join (.one .nrm ⟨[0],[],[(11, .bool)],[],[]⟩) .no) .no) (.seq (.seq .no (.loop ⟨[0,13],[],[(14,(.int .i64))],[],[]⟩ (.more (.ext 0) ⟨[],[],[],[],[]⟩ (.one .ret ⟨[],[],[(2, .bool)],[],[]⟩)) (.seq .no (.seq .no (.seq (.seq .no (.seq (.join (.one .nrm ⟨[0,13,14],[],[(26, .bool)],[],[]⟩) .no) .no)) .no))))) .no)))
noncomputable def style_named (a0:List (UInt8)):Option (Bool):=
 (bif (!(decide ((((List.length a0):Nat):Int)<(1:Int)))) then some (decide ((12:Int)<(((List.length a0):Nat):Int)))
  else some true).bind fun r1=>
 bif r1 then some false
 else (Lf.loopU (σ:=Int) (κ:=(Unit)⊕(Bool)) (fun z2=>
   bif (decide (z2<(((List.length a0):Nat):Int))) then (((Lf.idx a0 z2)).bind fun r3=>
    bif (!(decide ((((UInt8.toNat r3):Nat):Int)<(97:Int)))) then ((Lf.idx a0 z2)).bind fun r4=>
    some (decide ((122:Int)<(((UInt8.toNat r4):Nat):Int)))
    else some true).bind fun r5=>
   bif r5 then some (.inr (.inr false))
   else some (.inl (Go.IntKind.wrap .i64 (z2+(1:Int))))
   else some (.inr (.inl ()))) (0:Int):Option ((Unit)⊕(Bool))).bind fun r6=>
 Lf.onSum r6 (fun a7=>
 some true) (fun b8=>
 some b8)
theorem style_named_eq (a0:List (UInt8)):Lf.fnE style_namedCtx style_namedCode style_namedAnn [.val .str] [.bool] [.tmp 2] (a0)=style_named a0:=by kernel_rfl
noncomputable def style_namedEnt:Nat×Lf.Entry:=(63,⟨[.val .str],[.bool],fun z=>style_named z⟩)
theorem style_named_ok:Lf.EntryOk Go.Proofs.Tryz.prog GG 63 style_namedEnt.2:=
 Lf.fn_ok (c:=style_namedCtx) (code:=style_namedCode) (an:=style_namedAnn) (slots:=[.tmp 2]) (fn:=Go.Proofs.Tryz.f63) (by kernel_rfl) ⟨Tys_ok,Lf.FnsOk.look .nil,Lf.IpsOk.look .nil,TysEq_ok,TysIm_ok,Lf.IvsOk.look .nil,Lf.FxsOk.look .nil⟩ (by kernel_rfl) (by kernel_rfl) (by kernel_rfl) (by kernel_rfl) (by kernel_rfl) (Nat.le_of_ble_eq_true rfl) (by simp [Lf.Ty.top]) (by simp [Lf.Ty.top]) fun z r h=>(style_named_eq z).trans h
noncomputable def style_FindCtx:Lf.Ctx:=⟨21,Tys,[],[],[],[],[],TysEq,[],some 4611686018427387904,TysIm,[]⟩
noncomputable def style_FindCode:Go.Code:=(Go.Proofs.Tryz.f64.body).getD .skip
def style_FindAnn:Lf.Ann:=(.seq .no (.seq (.seq .no (.loop ⟨[1,0,8],[],[(9,(.int .i64))],[],[]⟩ (.more (.ext 0) ⟨[],[],[],[],[]⟩ (.one .ret ⟨[],[],[(4,(.int .i64)),(5, .bool)],[],[]⟩)) .no)) .no))
noncomputable def style_Find (a0:List xT32) (a1:List (UInt8)):Option ((Int)×(Bool)):=
 (Lf.loopU (σ:=Int) (κ:=(Unit)⊕((Int)×(Bool))) (fun z1=>
   bif (decide (z1<(((List.length a0):Nat):Int))) then ((Lf.idx a0 z1)).bind fun r2=>
   bif (decide ((r2.1:List (UInt8))=a1)) then some (.inr (.inr (z1,true)))
   else some (.inl (Go.IntKind.wrap .i64 (z1+(1:Int))))
   else some (.inr (.inl ()))) (0:Int):Option ((Unit)⊕((Int)×(Bool)))).bind fun r3=>
 Lf.onSum r3 (fun a4=>
 some ((0:Int),false)) (fun b5=>
 some b5)
theorem style_Find_eq (a0:List xT32) (a1:List (UInt8)):Lf.fnE style_FindCtx style_FindCode style_FindAnn [.val xY46, .val .str] [(.int .i64), .bool] [.tmp 4, .tmp 5] (a0,a1)=style_Find a0 a1:=by kernel_rfl
noncomputable def style_FindEnt:Nat×Lf.Entry:=(64,⟨[.val xY46, .val .str],[(.int .i64), .bool],fun z=>style_Find z.1 z.2⟩)
theorem style_Find_ok:Lf.EntryOk Go.Proofs.Tryz.prog GG 64 style_FindEnt.2:=
 Lf.fn_ok (c:=style_FindCtx) (code:=style_FindCode) (an:=style_FindAnn) (slots:=[.tmp 4, .tmp 5]) (fn:=Go.Proofs.Tryz.f64) (by kernel_rfl) ⟨Tys_ok,Lf.FnsOk.look .nil,Lf.IpsOk.look .nil,TysEq_ok,TysIm_ok,Lf.IvsOk.look .nil,Lf.FxsOk.look .nil⟩ (by kernel_rfl) (by kernel_rfl) (by kernel_rfl) (by kernel_rfl) (by kernel_rfl) (Nat.le_of_ble_eq_true rfl) (by simp [Lf.Ty.top]) (by simp [Lf.Ty.top]) fun z r h=>(style_Find_eq z.1 z.2).trans h
noncomputable def style_changeCtx:Lf.Ctx:=⟨41,Tys,[],[],[],[],[],TysEq,[],some 4611686018427387904,TysIm,[]⟩
noncomputable def style_changeCode:Go.Code:=(Go.Proofs.Tryz.f65.body).getD .skip
def style_changeAnn:Lf.Ann:=(.seq .no (.seq (.seq (.join (.one .nrm ⟨[],[(1, .ref 1 [] 0)],[(3, .bool)],[(1,70,xY16)],[]⟩) .no) (.cnd .no (.seq (.join (.one .nrm ⟨[],[],[(32, .bool)],[],[]⟩) .no) .no))) .no))
noncomputable def style_change (a0:(Int)×((Int)×((Int)×(Unit)))):Option (Int):=
 (bif (!(decide (((Lf.bits .andNot .i64 a0.1 (127:Int)):Int)≠(0:Int)))) then bif (!(decide (((Lf.bits .andNot .i64 a0.2.1 (127:Int)):Int)≠(0:Int)))) then bif (!(decide (a0.1<(0:Int)))) then bif (!(decide (a0.2.1<(0:Int)))) then some ((decide (((Lf.bits .and .i64 a0.1 a0.2.1):Int)≠(0:Int))),a0)
  else some (true,a0)
  else some (true,a0)
  else some (true,a0)
  else some (true,a0)).bind fun r1=>
 bif r1.1 then some (62:Int)
 else (bif (!(decide (r1.2.2.2.1<(-(1:Int))))) then some (decide ((15:Int)<r1.2.2.2.1))
  else some true).bind fun r2=>
 bif r2 then some (63:Int)
 else some (0:Int)
theorem style_change_eq (a0:(Int)×((Int)×((Int)×(Unit)))):Lf.fnE style_changeCtx style_changeCode style_changeAnn [.val xY16] [(.int .i64)] [.tmp 2] (a0)=style_change a0:=by kernel_rfl
noncomputable def style_changeEnt:Nat×Lf.Entry:=(65,⟨[.val xY16],[(.int .i64)],fun z=>style_change z⟩)
theorem style_change_ok:Lf.EntryOk Go.Proofs.Tryz.prog GG 65 style_changeEnt.2:=
 Lf.fn_ok (c:=style_changeCtx) (code:=style_changeCode) (an:=style_changeAnn) (slots:=[.tmp 2]) (fn:=Go.Proofs.Tryz.f65) (by kernel_rfl) ⟨Tys_ok,Lf.FnsOk.look .nil,Lf.IpsOk.look .nil,TysEq_ok,TysIm_ok,Lf.IvsOk.look .nil,Lf.FxsOk.look .nil⟩ (by kernel_rfl) (by kernel_rfl) (by kernel_rfl) (by kernel_rfl) (by kernel_rfl) (Nat.le_of_ble_eq_true rfl) (by simp [Lf.Ty.top]) (by simp [Lf.Ty.top]) fun z r h=>(style_change_eq z).trans h
noncomputable def style_endsCtx:Lf.Ctx:=⟨33,Tys,[style_FindEnt],[],[],[],[],TysEq,[],some 4611686018427387904,TysIm,[]⟩
noncomputable def style_endsCode:Go.Code:=(Go.Proofs.Tryz.f66.body).getD .skip
def style_endsAnn:Lf.Ann:=(.seq .no (.seq .no (.seq .no (.seq (.seq .no (.loop ⟨[0],[],[(8,(.int .i64)),(1,(.int .i64)),(5, .bool)],[],[]⟩ (.one (.ext 0) ⟨[],[],[(5, .bool)],[],[]⟩) (.seq .no (.seq .no (.seq (.seq .no (.seq (.seq (.join (.one .nrm ⟨[0,5,8,6],[],[(29, .bool)],[],[]⟩) .no) .no) .no)) .no))))) .no))))
noncomputable def style_ends (a0:List xT32) (a1:Int):Option (Bool):=
 (Lf.loopU (σ:=(Int)×((Int)×(Bool))) (κ:=Bool) (fun z1=>
   bif (decide (z1.1<(8:Int))) then ((Lf.idx a0 z1.2.1)).bind fun r2=>
   ((Go.Fn.style_Find a0 r2.2.1)).bind fun r3=>
   (((Lf.idx a0 z1.2.1)).bind fun r4=>
    bif (!(decide ((r4.2.1:List (UInt8))=([]:List (UInt8))))) then some (!r3.2)
    else some true).bind fun r5=>
   bif r5 then some (.inr true)
   else some (.inl ((Go.IntKind.wrap .i64 (z1.1+(1:Int))),(r3.1,z1.2.2)))
   else some (.inr z1.2.2)) ((0:Int),(a1,false)):Option (Bool)).bind fun r6=>
 some r6
theorem style_ends_eq (a0:List xT32) (a1:Int):Lf.fnE style_endsCtx style_endsCode style_endsAnn [.val xY46, .val (.int .i64)] [.bool] [.tmp 4] (a0,a1)=style_ends a0 a1:=by kernel_rfl
noncomputable def style_endsEnt:Nat×Lf.Entry:=(66,⟨[.val xY46, .val (.int .i64)],[.bool],fun z=>style_ends z.1 z.2⟩)
theorem style_ends_ok:Lf.EntryOk Go.Proofs.Tryz.prog GG 66 style_endsEnt.2:=
 Lf.fn_ok (c:=style_endsCtx) (code:=style_endsCode) (an:=style_endsAnn) (slots:=[.tmp 4]) (fn:=Go.Proofs.Tryz.f66) (by kernel_rfl) ⟨Tys_ok,Lf.FnsOk.look (.con style_Find_ok .nil),Lf.IpsOk.look .nil,TysEq_ok,TysIm_ok,Lf.IvsOk.look .nil,Lf.FxsOk.look .nil⟩ (by kernel_rfl) (by kernel_rfl) (by kernel_rfl) (by kernel_rfl) (by kernel_rfl) (Nat.le_of_ble_eq_true rfl) (by simp [Lf.Ty.top]) (by simp [Lf.Ty.top]) fun z r h=>(style_ends_eq z.1 z.2).trans h
noncomputable def style_CheckCtx:Lf.Ctx:=⟨73,Tys,[style_namedEnt,style_FindEnt,style_changeEnt,style_endsEnt],[],[],[],[],TysEq,[],some 4611686018427387904,TysIm,[]⟩
noncomputable def style_CheckCode:Go.Code:=(Go.Proofs.Tryz.f33.body).getD .skip
def style_CheckAnn:Lf.Ann:=(.seq .no (.seq .no (.seq (.seq .no (.loop ⟨[0,16,17],[],[(18,(.int .i64))],[],[]⟩ (.more (.ext 0) ⟨[0],[],[],[],[]⟩ (.one .ret ⟨[],[],[(2,(.int .i64)),(3,(.int .i64))],[],[]⟩)) (.seq .no (.seq .no (.seq (.seq .no (.seq .no (.seq (.seq (.draw 11) .no) .no))) .no))))) (.seq (.seq .no (.loop ⟨[0,47,48],[],[(49,(.int .i64))],[],[]⟩ (.more (.ext 2) ⟨[],[],[],[],[]⟩ (.one .ret ⟨[],[],[(2,(.int .i64)),(3,(.int .i64))],[],[]⟩)) (.seq .no (.seq .no (.seq (.join (.more .nrm ⟨[0,47,48,49],[],[],[],[]⟩ (.one .ret ⟨[],[],[(2,(.int .i64)),(3,(.int .i64))],[],[]⟩)) .no) .no))))) .no))))
noncomputable def style_Check (a0:List xT32):Option ((Int)×(Int)):=
 bif (decide ((64:Int)<(((List.length a0):Nat):Int))) then some ((0:Int),(2:Int))
 else (Lf.loopU (σ:=Int) (κ:=(Unit)⊕((Int)×(Int))) (fun z1=>
   bif (decide (z1<(((List.length a0):Nat):Int))) then ((Lf.idx a0 z1)).bind fun r2=>
   ((Go.Fn.style_named r2.1)).bind fun r3=>
   bif (!r3) then some (.inr (.inr (z1,(60:Int))))
   else ((Lf.sub a0 (0:Int) z1)).bind fun r4=>
   ((Go.Fn.style_Find r4 r2.1)).bind fun r5=>
   bif r5.2 then some (.inr (.inr (z1,(61:Int))))
   else ((Go.Fn.style_change r2.2.2.1)).bind fun r6=>
   bif (decide ((r6:Int)≠(0:Int))) then some (.inr (.inr (z1,r6)))
   else some (.inl (Go.IntKind.wrap .i64 (z1+(1:Int))))
   else some (.inr (.inl ()))) (0:Int):Option ((Unit)⊕((Int)×(Int)))).bind fun r7=>
 Lf.onSum r7 (fun a8=>
 (Lf.loopU (σ:=Int) (κ:=(Unit)⊕((Int)×(Int))) (fun z9=>
   bif (decide (z9<(((List.length a0):Nat):Int))) then (((Lf.idx a0 z9)).bind fun r10=>
    bif (decide ((r10.2.1:List (UInt8))=([]:List (UInt8)))) then some (.inl ())
    else ((Go.Fn.style_Find a0 r10.2.1)).bind fun r11=>
    bif (!r11.2) then some (.inr (z9,(64:Int)))
    else ((Go.Fn.style_ends a0 z9)).bind fun r12=>
    bif (!r12) then some (.inr (z9,(65:Int)))
    else some (.inl ()):Option ((Unit)⊕((Int)×(Int)))).bind fun r13=>
   Lf.onSum r13 (fun a14=>
   some (.inl (Go.IntKind.wrap .i64 (z9+(1:Int))))) (fun b15=>
   some (.inr (.inr b15)))
   else some (.inr (.inl ()))) (0:Int):Option ((Unit)⊕((Int)×(Int)))).bind fun r16=>
 Lf.onSum r16 (fun a17=>
 some ((0:Int),(0:Int))) (fun b18=>
 some b18)) (fun b19=>
 some b19)
theorem style_Check_eq (a0:List xT32):Lf.fnE style_CheckCtx style_CheckCode style_CheckAnn [.val xY46] [(.int .i64),(.int .i64)] [.tmp 2, .tmp 3] (a0)=style_Check a0:=by kernel_rfl
noncomputable def style_CheckEnt:Nat×Lf.Entry:=(33,⟨[.val xY46],[(.int .i64),(.int .i64)],fun z=>style_Check z⟩)
theorem style_Check_ok:Lf.EntryOk Go.Proofs.Tryz.prog GG 33 style_CheckEnt.2:=
 Lf.fn_ok (c:=style_CheckCtx) (code:=style_CheckCode) (an:=style_CheckAnn) (slots:=[.tmp 2, .tmp 3]) (fn:=Go.Proofs.Tryz.f33) (by kernel_rfl) ⟨Tys_ok,Lf.FnsOk.look (.con style_named_ok (.con style_Find_ok (.con style_change_ok (.con style_ends_ok .nil)))),Lf.IpsOk.look .nil,TysEq_ok,TysIm_ok,Lf.IvsOk.look .nil,Lf.FxsOk.look .nil⟩ (by kernel_rfl) (by kernel_rfl) (by kernel_rfl) (by kernel_rfl) (by kernel_rfl) (Nat.le_of_ble_eq_true rfl) (by simp [Lf.Ty.top]) (by simp [Lf.Ty.top]) fun z r h=>(style_Check_eq z).trans h
noncomputable def style_plainCtx:Lf.Ctx:=⟨2,Tys,[],[],[],[],[],TysEq,[],some 4611686018427387904,TysIm,[]⟩
noncomputable def style_plainCode:Go.Code:=(Go.Proofs.Tryz.f108.body).getD .skip
def style_plainAnn:Lf.Ann:= .no
noncomputable def style_plain  :Option ((Int)×((Int)×((Int)×(Unit)))):=
 some ((0:Int),((0:Int),((-(1:Int)),())))
theorem style_plain_eq  :Lf.fnE style_plainCtx style_plainCode style_plainAnn [] [xY16] [.cell 0 70] ()=style_plain  :=by kernel_rfl
noncomputable def style_plainEnt:Nat×Lf.Entry:=(108,⟨[],[xY16],fun _=>style_plain ⟩)
theorem style_plain_ok:Lf.EntryOk Go.Proofs.Tryz.prog GG 108 style_plainEnt.2:=
 Lf.fn_ok (c:=style_plainCtx) (code:=style_plainCode) (an:=style_plainAnn) (slots:=[.cell 0 70]) (fn:=Go.Proofs.Tryz.f108) (by kernel_rfl) ⟨Tys_ok,Lf.FnsOk.look .nil,Lf.IpsOk.look .nil,TysEq_ok,TysIm_ok,Lf.IvsOk.look .nil,Lf.FxsOk.look .nil⟩ (by kernel_rfl) (by kernel_rfl) (by kernel_rfl) (by kernel_rfl) (by kernel_rfl) (Nat.le_of_ble_eq_true rfl) (by simp [Lf.Ty.top]) (by simp [Lf.Ty.top]) fun z r h=>(style_plain_eq ).trans h
noncomputable def style_ThenCtx:Lf.Ctx:=⟨32,Tys,[],[],[],[],[],TysEq,[],some 4611686018427387904,TysIm,[]⟩
noncomputable def style_ThenCode:Go.Code:=(Go.Proofs.Tryz.f109.body).getD .skip
def style_ThenAnn:Lf.Ann:=(.seq .no (.seq .no (.seq (.join (.one .nrm ⟨[],[(4, .ref 4 [] 0),(5, .ref 5 [] 0)],[],[(4,70,xY16),(5,70,xY16)],[]⟩) .no) .no)))
noncomputable def style_Then (a0:(Int)×((Int)×((Int)×(Unit)))) (a1:(Int)×((Int)×((Int)×(Unit)))):Option ((Int)×((Int)×((Int)×(Unit)))):=
 (bif (decide ((a1.2.2.1:Int)=(-(1:Int)))) then some (((0:Int),((0:Int),((0:Int),()))),((Lf.bits .or .i64 (Lf.bits .andNot .i64 a0.1 a1.2.1) a1.1),((Lf.bits .or .i64 (Lf.bits .andNot .i64 a0.2.1 a1.1) a1.2.1),(a0.2.2.1,a1.2.2.2))))
  else some (((0:Int),((0:Int),((0:Int),()))),((Lf.bits .or .i64 (Lf.bits .andNot .i64 a0.1 a1.2.1) a1.1),((Lf.bits .or .i64 (Lf.bits .andNot .i64 a0.2.1 a1.1) a1.2.1),a1.2.2)))).bind fun r1=>
 some r1.2
theorem style_Then_eq (a0:(Int)×((Int)×((Int)×(Unit)))) (a1:(Int)×((Int)×((Int)×(Unit)))):Lf.fnE style_ThenCtx style_ThenCode style_ThenAnn [.val xY16, .val xY16] [xY16] [.cell 4 70] (a0,a1)=style_Then a0 a1:=by kernel_rfl
noncomputable def style_ThenEnt:Nat×Lf.Entry:=(109,⟨[.val xY16, .val xY16],[xY16],fun z=>style_Then z.1 z.2⟩)
theorem style_Then_ok:Lf.EntryOk Go.Proofs.Tryz.prog GG 109 style_ThenEnt.2:=
 Lf.fn_ok (c:=style_ThenCtx) (code:=style_ThenCode) (an:=style_ThenAnn) (slots:=[.cell 4 70]) (fn:=Go.Proofs.Tryz.f109) (by kernel_rfl) ⟨Tys_ok,Lf.FnsOk.look .nil,Lf.IpsOk.look .nil,TysEq_ok,TysIm_ok,Lf.IvsOk.look .nil,Lf.FxsOk.look .nil⟩ (by kernel_rfl) (by kernel_rfl) (by kernel_rfl) (by kernel_rfl) (by kernel_rfl) (Nat.le_of_ble_eq_true rfl) (by simp [Lf.Ty.top]) (by simp [Lf.Ty.top]) fun z r h=>(style_Then_eq z.1 z.2).trans h
noncomputable def style_wholeCtx (self:(List xT32)×(Int)→Option ((Int)×((Int)×((Int)×(Unit))))):Lf.Ctx:=⟨38,Tys,[style_FindEnt,(68,⟨[.val xY46, .val (.int .i64)],[xY16],self⟩),style_plainEnt,style_ThenEnt],[],[],[],[],TysEq,[],some 4611686018427387904,TysIm,[]⟩
noncomputable def style_wholeCode:Go.Code:=(Go.Proofs.Tryz.f68.body).getD .skip
def style_wholeAnn:Lf.Ann:=(.seq .no (.seq .no (.seq (.join (.one .nrm ⟨[1,0],[(4, .ref 4 [] 0),(5, .ref 5 [] 0)],[],[(4,70,xY16),(5,70,xY16)],[]⟩) (.seq .no (.seq (.join (.one .nrm ⟨[1,0,6],[(4, .ref 4 [] 0),(5, .ref 5 [] 0)],[(27, .bool)],[(4,70,xY16),(5,70,xY16)],[]⟩) .no) .no))) (.seq (.draw 7) .no))))
noncomputable def style_wholeB (self:(List xT32)×(Int)→Option ((Int)×((Int)×((Int)×(Unit))))) (a0:List xT32) (a1:Int):Option ((Int)×((Int)×((Int)×(Unit)))):=
 (Go.Fn.style_plain).bind fun r1=>
 (((Lf.idx a0 a1)).bind fun r2=>
  ((Go.Fn.style_Find a0 r2.2.1)).bind fun r3=>
  (bif r3.2 then ((Lf.idx a0 a1)).bind fun r4=>
   some ((decide ((r4.2.1:List (UInt8))≠([]:List (UInt8)))),(((0:Int),((0:Int),((0:Int),()))),r1))
   else some (false,(((0:Int),((0:Int),((0:Int),()))),r1))).bind fun r5=>
  bif r5.1 then ((self (a0,r3.1))).bind fun r6=>
  some (r5.2.1,r6)
  else some r5.2).bind fun r7=>
 ((Lf.idx a0 a1)).bind fun r8=>
 ((Go.Fn.style_Then r7.2 r8.2.2.1)).bind fun r9=>
 some r9
theorem style_whole_eq (self:(List xT32)×(Int)→Option ((Int)×((Int)×((Int)×(Unit))))) (a0:List xT32) (a1:Int):Lf.fnE (style_wholeCtx self) style_wholeCode style_wholeAnn [.val xY46, .val (.int .i64)] [xY16] [.cell 4 70] (a0,a1)=style_wholeB self a0 a1:=by kernel_rfl
noncomputable def style_wholeN:Nat→(List xT32)×(Int)→Option ((Int)×((Int)×((Int)×(Unit))))
 | 0=>fun _=>none
 | n+1=>fun z=>style_wholeB (style_wholeN n) z.1 z.2
noncomputable def style_whole (a0:List xT32) (a1:Int):Option ((Int)×((Int)×((Int)×(Unit)))):=Lf.supC fun n=>style_wholeN n (a0,a1)
noncomputable def style_wholeEnt:Nat×Lf.Entry:=(68,⟨[.val xY46, .val (.int .i64)],[xY16],fun z=>style_whole z.1 z.2⟩)
theorem style_whole_ok:Lf.EntryOk Go.Proofs.Tryz.prog GG 68 style_wholeEnt.2:=
 Lf.rec_ok (ps:=[.val xY46, .val (.int .i64)]) (rs:=[xY16]) (N:=style_wholeN) Go.Proofs.Tryz.f68 (by kernel_rfl) (by kernel_rfl) (by kernel_rfl) (by simp [Lf.Ty.top]) (fun _=>rfl) fun n ih=>Lf.fn_ok (c:=style_wholeCtx (style_wholeN n)) (code:=style_wholeCode) (an:=style_wholeAnn) (slots:=[.cell 4 70]) (fn:=Go.Proofs.Tryz.f68) (by kernel_rfl) ⟨Tys_ok,Lf.FnsOk.look (.con style_Find_ok (.cons ih (.con style_plain_ok (.con style_Then_ok .nil)))),Lf.IpsOk.look .nil,TysEq_ok,TysIm_ok,Lf.IvsOk.look .nil,Lf.FxsOk.look .nil⟩ (by kernel_rfl) (by kernel_rfl) (by kernel_rfl) (by kernel_rfl) (by kernel_rfl) (Nat.le_of_ble_eq_true rfl) (by simp [Lf.Ty.top]) (by simp [Lf.Ty.top]) fun z r h=>(style_whole_eq (style_wholeN n) z.1 z.2).trans h
noncomputable def style_WholeCtx:Lf.Ctx:=⟨31,Tys,[style_CheckEnt,style_FindEnt,style_wholeEnt],[10],[],[],[],TysEq,[],some 4611686018427387904,TysIm,[]⟩
noncomputable def style_WholeCode:Go.Code:=(Go.Proofs.Tryz.f35.body).getD .skip
def style_WholeAnn:Lf.Ann:= .no
noncomputable def style_Whole (a0:List xT32) (a1:List (UInt8)):Option (((Int)×((Int)×((Int)×(Unit))))×(Int)):=
 ((Go.Fn.style_Check a0)).bind fun r1=>
 bif (decide ((r1.2:Int)≠(0:Int))) then some (((0:Int),((0:Int),((0:Int),()))),r1.2)
 else ((Go.Fn.style_Find a0 a1)).bind fun r2=>
 bif (!r2.2) then some (((0:Int),((0:Int),((0:Int),()))),(66:Int))
 else ((Go.Fn.style_whole a0 r2.1)).bind fun r3=>
 some (r3,(0:Int))
theorem style_Whole_eq (a0:List xT32) (a1:List (UInt8)):Lf.fnE style_WholeCtx style_WholeCode style_WholeAnn [.val xY46, .val .str] [xY16,(.int .i64)] [.cell 4 70, .tmp 5] (a0,a1)=style_Whole a0 a1:=by kernel_rfl
noncomputable def style_WholeEnt:Nat×Lf.Entry:=(35,⟨[.val xY46, .val .str],[xY16,(.int .i64)],fun z=>style_Whole z.1 z.2⟩)
theorem style_Whole_ok:Lf.EntryOk Go.Proofs.Tryz.prog GG 35 style_WholeEnt.2:=
 Lf.fn_ok (c:=style_WholeCtx) (code:=style_WholeCode) (an:=style_WholeAnn) (slots:=[.cell 4 70, .tmp 5]) (fn:=Go.Proofs.Tryz.f35) (by kernel_rfl) ⟨Tys_ok,Lf.FnsOk.look (.con style_Check_ok (.con style_Find_ok (.con style_whole_ok .nil))),Lf.IpsOk.look .nil,TysEq_ok,TysIm_ok,Lf.IvsOk.look .nil,Lf.FxsOk.look .nil⟩ (by kernel_rfl) (by kernel_rfl) (by kernel_rfl) (by kernel_rfl) (by kernel_rfl) (Nat.le_of_ble_eq_true rfl) (by simp [Lf.Ty.top]) (by simp [Lf.Ty.top]) fun z r h=>(style_Whole_eq z.1 z.2).trans h
end Go.Fn
/- Sheets of styles, plainly: they are checked, and what passes has all its wholes. -/
namespace Go.Fn
open Go Go.Lf
abbrev Chg:Type:=Int×(Int×(Int×Unit))
abbrev Sty:Type:=List UInt8×(List UInt8×(Chg×Unit))
theorem at_len {α:Type} {l:List α} {i:Nat} {x:α} (h:l[i]? =some x):i<l.length:=(List.getElem?_eq_some_iff.1 h).1
theorem named_ok (s:List UInt8):Ok (style_named s) fun _=>True:=by
 unfold style_named
 refine Ok.bind (Q:=fun b=>b=false→s.length≤12) ?_ fun b hb=>Ok.cond (fun _=>Ok.some trivial) fun h=>?_
 ·cases h1:decide (((s.length:Nat):Int)<1) with
  | true=>exact Ok.some (by simp)
  | false=>exact Ok.some fun h=>by have:=of_decide_eq_false h;omega
 have hl:=hb h
 refine Ok.bind (Q:=Nx (fun _=>True) fun _=>True) ?_ fun r _=>by cases r<;>exact Ok.some trivial
 refine Ok.range0 s (by omega) (fun _=>True) (fun i x hx _=>?_) (fun _=>?_) trivial
 ·have hlt:=at_len hx
  refine Ok.yes (by omega) (Ok.bind (Q:=fun _=>True) (Ok.bind (Ok.idxE hx) fun y _=>?_) fun b _=>Ok.cond (fun _=>Ok.inr trivial) fun _=>Ok.inl ⟨wrapS (by omega),trivial⟩)
  cases decide (((UInt8.toNat y:Nat):Int)<97) with
  | true=>exact Ok.some trivial
  | false=>exact Ok.bind (Ok.idxE hx) fun _ _=>Ok.some trivial
 ·exact Ok.no (by omega) (Ok.inr trivial)
theorem change_ok (c:Chg):Ok (style_change c) fun _=>True:=by
 unfold style_change
 repeat' first | exact Ok.some trivial | refine Ok.bind (Q:=fun _=>True) ?_ (fun _ _=>?_) | refine Ok.cond (fun _=>?_) (fun _=>?_)
theorem find_ok (l:List Sty) (n:List UInt8) (hl:l.length<4000000000000000000):Ok (style_Find l n) fun r=>r.2=true→ ∃ i:Nat,i<l.length∧r.1=i:=by
 unfold style_Find
 refine Ok.bind (Q:=Nx (fun _=>True) fun r:Int×Bool=> ∃ i:Nat,i<l.length∧r.1=i) ?_ fun r hr=>?_
 ·refine Ok.range0 l (by omega) (fun _=>True) (fun i x hx _=>?_) (fun _=>?_) trivial
  ·have hlt:=at_len hx
   exact Ok.yes (by omega) (Ok.bind (Ok.idxE hx) fun y _=>Ok.ifs (fun _=>Ok.inr ⟨i,hlt,rfl⟩) fun _=>Ok.inl ⟨wrapS (by omega),trivial⟩)
  ·exact Ok.no (by omega) (Ok.inr trivial)
 ·cases r with
  | inl _=>exact Ok.some fun h=>by cases h
  | inr r=>exact Ok.some fun _=>hr
theorem then_ok (a b:Chg):Ok (style_Then a b) fun _=>True:=by
 unfold style_Then
 repeat' first | exact Ok.some trivial | refine Ok.bind (Q:=fun _=>True) ?_ (fun _ _=>?_) | refine Ok.cond (fun _=>?_) (fun _=>?_)
theorem wholeB_ok {self:List Sty×Int→Option Chg} {l:List Sty} {i:Nat} {x:Sty} {v:Int×Bool} (hx:l[i]? =some x) (hv:style_Find l x.2.1=some v) (hs:v.2=true→x.2.1≠[]→ ∃ c,self (l,v.1)=some c): ∃ c,style_wholeB self l (i:Int)=some c:=by
 suffices h:Ok (style_wholeB self l (i:Int)) fun _=>True by
  obtain ⟨c,hc,_⟩:=h
  exact ⟨c,hc⟩
 unfold style_wholeB
 refine Ok.bind (Q:=fun _=>True) ⟨_,rfl,trivial⟩ fun p _=>?_
 refine Ok.bind (Q:=fun _=>True) ?_ fun q _=>Ok.bind (Ok.idxE hx) fun y _=>Ok.ends (then_ok _ _)
 refine Ok.bind (Ok.idxE hx) fun y hy=>?_
 subst hy
 refine Ok.bind (Ok.of (Q:=(v= ·)) hv rfl) fun r hr=>?_
 subst hr
 refine Ok.bind (Q:=fun q=>q.1=true→v.2=true∧x.2.1≠[]) (Ok.cond (fun h=>Ok.bind (Ok.idxE hx) fun y hy=>Ok.some fun h'=>⟨h,by subst hy;exact of_decide_eq_true h'⟩) fun _=>Ok.some fun h=>by cases h) fun q hq=>Ok.cond (fun h=>?_) fun _=>Ok.some trivial
 obtain ⟨c,hc⟩:=hs (hq h).1 (hq h).2
 exact Ok.bind (Ok.of (Q:=fun _=>True) hc trivial) fun _ _=>Ok.some trivial
theorem wholeB_mono {self self':List Sty×Int→Option Chg} (hs: ∀ z,Le (self z) (self' z)) (l:List Sty) (i:Int):Le (style_wholeB self l i) (style_wholeB self' l i):=by
 unfold style_wholeB
 repeat' first | exact hs _ | refine Le.bind ?_ (fun _=>?_) | refine Le.cond ?_ ?_ | exact Le.refl
theorem wholeN_mono: ∀ (n:Nat) z,Le (style_wholeN n z) (style_wholeN (n+1) z)
 | 0,_=>fun _ h=>by cases h
 | n+1,z=>wholeB_mono (wholeN_mono n) _ _
theorem whole_of {l:List Sty} {i:Int} {n:Nat} (h: ∃ c,style_wholeN n (l,i)=some c): ∃ c,style_whole l i=some c:=by
 obtain ⟨c,hc⟩:=h
 exact ⟨c,sup_le (g:=fun n=>style_wholeN n (l,i)) (fun n=>wholeN_mono n _) n c hc⟩
theorem ends_iter (l:List Sty) (hl:l.length<4000000000000000000) (B:Int×(Int×Bool)→Option ((Int×(Int×Bool))⊕Bool)) (hB: ∀ z1,B z1=(bif (decide (z1.1<(8:Int))) then ((Go.Lf.idx l z1.2.1)).bind fun r2=>
   ((Go.Fn.style_Find l r2.2.1)).bind fun r3=>
   (((Go.Lf.idx l z1.2.1)).bind fun r4=>
    bif (!(decide ((r4.2.1:List (UInt8))=([]:List (UInt8))))) then some (!r3.2)
    else some true).bind fun r5=>
   bif r5 then some (.inr true)
   else some (.inl ((Go.IntKind.wrap .i64 (z1.1+(1:Int))),(r3.1,z1.2.2)))
   else some (.inr z1.2.2))): ∀ (m k i N:Nat),k+m=8→m<N→i<l.length→Ok (iter B N ((k:Int),((i:Int),false))) fun r=>r=true→ ∃ c,style_wholeN m (l,(i:Int))=some c
 | _,_,_,0,_,hN,_=>by omega
 | 0,k,i,N+1,hk,_,_=>by
  unfold iter
  rw [hB]
  refine Ok.bind (Q:=Nx (fun _=>False) (fun r=>r=false)) (Ok.no (by show ¬ ((k:Int)<8);omega) (Ok.inr rfl)) fun d hd=>?_
  cases d with
  | inl z=>exact hd.elim
  | inr r=>exact Ok.some fun h=>by rw [show r=false from hd] at h;cases h
 | m+1,k,i,N+1,hk,hN,hi=>by
  unfold iter
  have hx:l[i]? =some l[i]:=List.getElem?_eq_getElem hi
  generalize l[i]=x at hx
  obtain ⟨v,hv,hvp⟩:=find_ok l x.2.1 hl
  rw [hB]
  refine Ok.bind (Q:=Nx (fun z=> ∃ j:Nat,j<l.length∧z=(((k+1:Nat):Int),((j:Int),false))∧((∃ c,style_wholeN m (l,(j:Int))=some c)→ ∃ c,style_wholeN (m+1) (l,(i:Int))=some c)) (fun r=>r=true→ ∃ c,style_wholeN (m+1) (l,(i:Int))=some c)) ?_ fun d hd=>?_
  ·refine Ok.yes (by show (k:Int)<8;omega) (Ok.bind (Ok.idxE hx) fun y hy=>?_)
   subst hy
   refine Ok.bind (Ok.of (Q:=(v= ·)) hv rfl) fun r hr=>?_
   subst hr
   refine Ok.bind (Q:=fun b=>(b=true→v.2=true→x.2.1=[])∧(b=false→v.2=true)) (Ok.bind (Ok.idxE hx) fun y hy=>?_) fun b hb=>Ok.cond (fun h=>Ok.inr fun _=>wholeB_ok hx hv fun h1 h2=>absurd (hb.1 h h1) h2) fun h=>?_
   ·subst hy
    cases h:decide (x.2.1=[]) with
    | true=>exact Ok.some ⟨fun _ _=>of_decide_eq_true h,fun h=>(by cases h)⟩
    | false=>
     refine Ok.some ?_
     cases v.2 with
     | true=>exact ⟨fun h=>(by cases h),fun _=>rfl⟩
     | false=>exact ⟨fun _ h=>(by cases h),fun h=>(by cases h)⟩
   ·obtain ⟨j,hj,hv1⟩:=hvp (hb.2 h)
    refine Ok.inl ⟨j,hj,?_,fun hc=>wholeB_ok hx hv fun _ _=>by rw [hv1];exact hc⟩
    show (IntKind.wrap .i64 ((k:Int)+1),(v.1,false))=_
    rw [wrapS (by omega),hv1]
  ·cases d with
   | inl z=>
    obtain ⟨j,hj,rfl,hw⟩:=hd
    exact (ends_iter l hl B hB m (k+1) j N (by omega) (by omega) hj).imp fun r hr h=>hw (hr h)
   | inr r=>exact Ok.some hd
theorem ends_ok (l:List Sty) (hl:l.length<4000000000000000000) {i:Nat} (hi:i<l.length):Ok (style_ends l (i:Int)) fun r=>r=true→ ∃ c,style_whole l (i:Int)=some c:=by
 unfold style_ends
 refine Ok.ends ((ends_iter l hl _ (fun _=>rfl) 8 0 i 4611686018427387904 rfl (by omega) hi).imp fun r hr h=>whole_of (hr h))
theorem scheck_ok (l:List Sty):Ok (style_Check l) fun r=>r.2=0→l.length≤64∧ ∀ i:Nat,i<l.length→ ∃ c,style_whole l (i:Int)=some c:=by
 unfold style_Check
 refine Ok.ifs (fun _=>Ok.some fun h=>by cases h) fun hl=>?_
 refine Ok.bind (Q:=Nx (fun _=>True) fun r:Int×Int=>r.2≠0) ?_ fun r hr=>?_
 ·refine Ok.range0 l (by omega) (fun _=>True) (fun i x hx _=>?_) (fun _=>?_) trivial
  ·have hlt:=at_len hx
   refine Ok.yes (by omega) (Ok.bind (Ok.idxE hx) fun y _=>Ok.bind (named_ok _) fun b _=>Ok.cond (fun _=>Ok.inr (show (60:Int)≠0 by decide)) fun _=>?_)
   refine Ok.bind (Ok.sub (Q:=fun t=>t.length≤l.length) (by omega) (by omega) (by omega) (by rw [List.length_take,List.length_drop];omega)) fun t ht=>Ok.bind (find_ok _ _ (by omega)) fun f _=>Ok.cond (fun _=>Ok.inr (show (61:Int)≠0 by decide)) fun _=>?_
   exact Ok.bind (change_ok _) fun e _=>Ok.ifs (fun h=>Ok.inr h) fun _=>Ok.inl ⟨wrapS (by omega),trivial⟩
  ·exact Ok.no (by omega) (Ok.inr trivial)
 cases r with
 | inr r=>exact Ok.some fun h=>absurd h hr
 | inl _=>
  refine Ok.bind (Q:=Nx (fun _=> ∀ i:Nat,i<l.length→ ∃ c,style_whole l (i:Int)=some c) fun r:Int×Int=>r.2≠0) ?_ fun r hr=>?_
  ·refine Ok.range0 l (by omega) (fun i=> ∀ j:Nat,j<i→ ∃ c,style_whole l (j:Int)=some c) (fun i x hx hi=>?_) (fun hi=>?_) (fun j h=>by omega)
   ·have hlt:=at_len hx
    obtain ⟨v,hv,hvp⟩:=find_ok l x.2.1 (by omega)
    refine Ok.yes (by omega) (Ok.bind (Q:=Nx (fun _=> ∃ c,style_whole l (i:Int)=some c) fun r:Int×Int=>r.2≠0) (Ok.bind (Ok.idxE hx) fun y hy=>?_) fun d hd=>?_)
    ·subst hy
     refine Ok.ifs (fun h=>Ok.inl (whole_of (n:=1) (wholeB_ok hx hv fun _ h'=>absurd h h'))) fun h=>?_
     refine Ok.bind (Ok.of (Q:=(v= ·)) hv rfl) fun r hr=>?_
     subst hr
     refine Ok.cond (fun _=>Ok.inr (by simp)) fun _=>Ok.bind (ends_ok l (by omega) hlt) fun e he=>?_
     cases e with
     | false=>exact Ok.inr (by simp)
     | true=>exact Ok.inl (he rfl)
    ·cases d with
     | inr r=>exact Ok.inr hd
     | inl _=>
      refine Ok.inl ⟨wrapS (by omega),fun j hj=>?_⟩
      by_cases h:j=i
      ·rw [h];exact hd
      ·exact hi j (by omega)
   ·exact Ok.no (by omega) (Ok.inr hi)
  ·cases r with
   | inr r=>exact Ok.some fun h=>absurd h hr
   | inl _=>exact Ok.some fun _=>⟨by omega,hr⟩
theorem sWhole_ok (l:List Sty) (hl:l.length≤64) (n:List UInt8):Ok (style_Whole l n) fun _=>True:=by
 unfold style_Whole
 refine Ok.bind (scheck_ok l) fun e he=>Ok.ifs (fun _=>Ok.some trivial) fun h0=>?_
 obtain ⟨_,hw⟩:=he (Decidable.not_not.1 h0)
 refine Ok.bind (find_ok l n (by omega)) fun r hr=>?_
 obtain ⟨v,b⟩:=r
 cases b with
 | false=>exact Ok.some trivial
 | true=>
  obtain ⟨i,hi,rfl⟩:=hr rfl
  obtain ⟨c,hc⟩:=hw i hi
  exact Ok.bind (Ok.of (Q:=fun _=>True) hc trivial) fun _ _=>Ok.some trivial
end Go.Fn
/- Bytecode, plainly: it is taken apart; the last instruction halts, and no other. -/
namespace Go.Fn
open Go Go.Lf
abbrev Ins:Type:=Int×(Int×(Int×(Int×(List Int×Unit))))
theorem wrapU_nonneg (x:Int):0≤IntKind.wrap .u64 x:=by
 simp only [IntKind.wrap]
 simp [IntKind.bits,IntKind.signed]
 omega
theorem wrap8_bd (x:Int):0≤IntKind.wrap .u8 x∧IntKind.wrap .u8 x≤255:=by
 simp only [IntKind.wrap]
 simp [IntKind.bits,IntKind.signed]
 omega
theorem left_ok (a:List Int) (ha:a.length≤2000000):Ok (octet_Cursor__Left (a,(0,(0,())))) (· =(((a.length:Nat):Int),(a,(0,(0,()))))):=by
 have e1:IntKind.wrap .i64 (((a.length:Nat):Int) - 0)=a.length:=wrap64 (by omega) (by omega) |>.trans (by omega)
 unfold octet_Cursor__Left
 exact Ok.some (by show (IntKind.wrap .i64 (((a.length:Nat):Int) - 0),_)=_;rw [e1])
theorem number_ok (a:List Int) (ha:a.length≤2000000):Ok (octet_Cursor__number (a,(0,(0,())))) fun r=>r.2.2.2=(a,(0,(0,())))∧(r.2.2.1=0→0≤r.1∧1≤r.2.1∧r.2.1≤a.length):=by
 unfold octet_Cursor__number
 refine Ok.bind (Q:=Nx (fun z:Int×(Int×(List Int×(Int×(Int×Unit))))=>z.2.2=(a,(0,(0,())))∧0≤z.1∧z.1≤a.length∧0≤z.2.1) (fun r:Int×(Int×(Int×(List Int×(Int×(Int×Unit)))))=>r.2.2.2=(a,(0,(0,())))∧r.2.2.1=31)) ?_ fun d hd=>?_
 ·refine Ok.loop (fun k z=>z.2.2=(a,(0,(0,())))∧(0≤z.1∧z.1+(k:Int)=a.length)∧0≤z.2.1) (fun k z hz=>?_) a.length _ (by omega) ⟨rfl,⟨by show (0:Int)≤0;omega,by show (0:Int)+_=_;omega⟩,by show (0:Int)≤0;omega⟩
  obtain ⟨i,n,c⟩:=z
  obtain ⟨hz1,⟨hz2,hz3⟩,hz4⟩:=hz
  simp only at hz1 hz2 hz3 hz4
  subst hz1
  refine Ok.bind (left_ok a ha) fun r hr=>?_
  subst hr
  refine Ok.ifs (fun hlt=>?_) fun hge=>Ok.inr ⟨rfl,hz2,by show i≤_;omega,hz4⟩
  have hlt:i<a.length:=hlt
  have ei:IntKind.wrap .i64 (0+i)=i:=by rw [wrap64 (by omega) (by omega)];omega
  refine Ok.bind (Ok.chk (Q:=fun k=>k<a.length) (by show 0≤IntKind.wrap .i64 (0+i);rw [ei];exact hz2) (by show IntKind.wrap .i64 (0+i)<_;rw [ei];exact hlt) (by show (IntKind.wrap .i64 (0+i)).toNat<_;rw [ei];omega)) fun j hj=>?_
  refine Ok.bind (Ok.nth (Q:=fun _=>True) hj trivial) fun x _=>?_
  refine Ok.bind (Q:=fun b=>b.2=(a,(0,(0,())))∧(b.1=false→i≤9)) ?_ fun b hb=>?_
  ·cases h:decide ((9:Int)<i) with
   | true=>exact Ok.some ⟨rfl,fun h=>(by cases h)⟩
   | false=>
    have h:=of_decide_eq_false h
    exact Ok.ifs (fun _=>Ok.some ⟨rfl,fun _=>by omega⟩) fun _=>Ok.some ⟨rfl,fun _=>by omega⟩
  ·obtain ⟨hb1,hb2⟩:=hb
   refine Ok.cond (fun _=>Ok.inr ⟨hb1,rfl⟩) fun h=>?_
   have hi:=hb2 h
   have e7:IntKind.wrap .i64 (7*i)=7*i:=wrap64 (by omega) (by omega)
   refine Ok.bind (Q:=fun _=>True) ⟨_,by show nn (IntKind.wrap .i64 (7*i)) _=_;unfold nn;rw [e7,if_neg (by omega)],trivial⟩ fun s _=>?_
   have hn:0≤bits .or .u64 n s:=by unfold bits;exact wrapU_nonneg _
   refine Ok.ifs (fun _=>?_) fun _=>Ok.inl ⟨k - 1,by omega,hb1,⟨?_,?_⟩,hn⟩
   ·refine Ok.bind (Q:=fun c=>c.2=(a,(0,(0,())))) (Ok.ifs (fun _=>Ok.some hb1) fun _=>Ok.some hb1) fun c hc=>Ok.cond (fun _=>Ok.inr ⟨hc,rfl⟩) fun _=>Ok.inr ⟨hc,hz2,by show i≤_;omega,hn⟩
   ·show 0≤IntKind.wrap .i64 (i+1)
    rw [wrap64 (by omega) (by omega)];omega
   ·show IntKind.wrap .i64 (i+1)+_=_
    rw [wrap64 (by omega) (by omega)];omega
 ·cases d with
  | inr r=>exact Ok.some ⟨hd.1,fun h=>by rw [show r.2.2.1=31 from hd.2] at h;cases h⟩
  | inl z=>
   obtain ⟨i,n,c⟩:=z
   obtain ⟨hz1,hz2,hz3,hz4⟩:=hd
   simp only at hz1 hz2 hz3 hz4
   subst hz1
   refine Ok.onL (Ok.bind (left_ok a ha) fun r hr=>?_)
   subst hr
   refine Ok.ifs (fun _=>Ok.some ⟨rfl,fun h=>(by cases h)⟩) fun hge=>Ok.some ⟨rfl,fun _=>⟨hz4,?_,?_⟩⟩
   ·have hge: ¬ (((a.length:Nat):Int)≤i):=hge
    show 1≤IntKind.wrap .i64 (i+1)
    rw [wrap64 (by omega) (by omega)];omega
   ·have hge: ¬ (((a.length:Nat):Int)≤i):=hge
    show IntKind.wrap .i64 (i+1)≤_
    rw [wrap64 (by omega) (by omega)];omega
theorem uint_ok (a:List Int) (ha:a.length≤2000000):Ok (octet_Cursor__Uint (a,(0,(0,())))) fun r=>0≤r.1∧(r.2.2.2.1=0→1≤r.2.2.1∧r.2.2.1≤a.length):=by
 unfold octet_Cursor__Uint
 refine Ok.bind (Q:=fun r=>r=(true,(a,(0,(0,()))))) ⟨_,rfl,rfl⟩ fun r hr=>?_
 subst hr
 refine Ok.cond (fun h=>by cases h) fun _=>Ok.bind (number_ok a ha) fun r hr=>?_
 obtain ⟨n,l,e,c⟩:=r
 obtain ⟨hc,hr⟩:=hr
 simp only at hc hr
 subst hc
 refine Ok.ifs (fun he=>?_) fun he=>Ok.some ?_
 ·have he:e≠0:=he
  refine Ok.bind (Q:=fun c=>c.2.2.1=e) ⟨(a,(0,(e,()))),?_,rfl⟩ fun c hc=>Ok.some ⟨by show (0:Int)≤0;omega,fun h=>?_⟩
  ·unfold octet_Cursor__Fail
   rfl
  ·have h:c.2.2.1=0:=h
   rw [hc] at h
   exact absurd h he
 ·have he:e=0:=Decidable.not_not.1 he
  obtain ⟨h1,h2,h3⟩:=hr he
  have el:IntKind.wrap .i64 (0+l)=l:=by rw [wrap64 (by omega) (by omega)];omega
  refine ⟨h1,fun _=>?_⟩
  show 1≤IntKind.wrap .i64 (0+l)∧IntKind.wrap .i64 (0+l)≤_
  rw [el]
  exact ⟨h2,h3⟩
def IOk (b:List Int) (at_:Int) (i:Ins):Prop:=i.1=at_∧1≤i.2.1∧at_+i.2.1≤b.length∧(i.2.2.1=1→1≤i.2.2.2.1)∧i.2.2.2.2.1.length≤100
theorem finish_ok {b:List Int} {i:Ins} {n:Int} (hb:b.length≤2000000) (h0:0≤i.1) (h1:1≤i.2.1) (h2:i.1+i.2.1≤b.length) (hw:i.2.2.2.2.1=[]) (hn:0≤n) (hn2:n≤5000000000):Ok (code_finish b i n) fun r=>r.2=0→IOk b i.1 r.1:=by
 unfold code_finish
 refine Ok.bind (Q:=Nx (fun e:Int×Ins=>e.1≠0) (fun p:Ins×Ins=>IOk b i.1 p.2)) ?_ fun d hd=>?_
 ·refine Ok.ifs (fun hk=>Ok.ifs (fun _=>Ok.inl (by simp)) fun hle=>Ok.inr ⟨rfl,h1,h2,fun _=>?_,by show i.2.2.2.2.1.length≤100;rw [hw];simp⟩) fun hk=>?_
  ·show 1≤IntKind.wrap .i64 (n+1)
   rw [wrap64 (by omega) (by omega)];omega
  ·refine Ok.bind (Q:=fun r=>r.2.2=i) ?_ fun r hr=>?_
   ·repeat' first | exact Ok.some rfl | refine Ok.cond (fun _=>?_) (fun _=>?_)
   obtain ⟨c,z,i'⟩:=r
   simp only at hr
   subst hr
   refine Ok.cond (fun _=>Ok.inr ⟨rfl,h1,h2,fun h=>absurd h hk,by show i'.2.2.2.2.1.length≤100;rw [hw];simp⟩) fun _=>Ok.ifs (fun _=>Ok.inr ⟨rfl,h1,h2,fun h=>absurd h hk,by show i'.2.2.2.2.1.length≤100;rw [hw];simp⟩) fun _=>Ok.ifs (fun _=>?_) fun _=>Ok.ifs (fun _=>Ok.inl (by simp)) fun _=>Ok.inr ⟨rfl,h1,h2,fun h=>absurd h hk,by show i'.2.2.2.2.1.length≤100;rw [hw];simp⟩
   have e1:IntKind.wrap .i64 (i'.1+i'.2.1)=i'.1+i'.2.1:=wrap64 (by omega) (by omega)
   have e2:IntKind.wrap .i64 (((b.length:Nat):Int) - (i'.1+i'.2.1))=b.length - (i'.1+i'.2.1):=wrap64 (by omega) (by omega)
   have e3:IntKind.wrap .i64 (n+1)=n+1:=wrap64 (by omega) (by omega)
   have e4:IntKind.wrap .i64 (IntKind.wrap .i64 (i'.1+i'.2.1+n)+1)=i'.1+i'.2.1+n+1:=by rw [wrap64 (x:=i'.1+i'.2.1+n) (by omega) (by omega)];exact wrap64 (by omega) (by omega)
   simp only [e1,e2,e3,e4]
   refine Ok.ifs (fun _=>Ok.inl (by simp)) fun h16=>Ok.ifs (fun _=>Ok.inl (by simp)) fun hle=>?_
   refine Ok.bind (Ok.sub (Q:=fun t=>t.length≤100∧i'.1+i'.2.1+n+1≤b.length) (by omega) (by omega) (by omega) ⟨by rw [List.length_take,List.length_drop];omega,by omega⟩) fun t ht=>?_
   have ht2:=ht.2
   refine Ok.bind (Q:=fun p:Ins×Ins=>p.2.1=i'.1∧p.2.2.1=i'.2.1∧p.2.2.2.1=i'.2.2.1∧p.2.2.2.2.2.1.length≤100) ?_ fun p hp=>Ok.inr ⟨hp.1,?_,?_,fun h=>absurd (hp.2.2.1.symm.trans h) hk,hp.2.2.2⟩
   ·refine Ok.range t (by omega) (fun k (s:Ins×Ins)=>s.1.1=i'.1∧s.1.2.1=i'.2.1∧s.1.2.2.1=i'.2.2.1∧s.1.2.2.2.2.1.length=k) (fun k x s hx hs=>?_) (fun s hs=>?_) ⟨rfl,rfl,rfl,by show i'.2.2.2.2.1.length=_;rw [hw];rfl⟩
    ·have hlt:=at_len hx
     obtain ⟨hs1,hs2,hs3,hs4⟩:=hs
     refine Ok.yes (by show (k:Int)<_;omega) (Ok.bind (Ok.idxE hx) fun y _=>Ok.bind (Ok.appE (by show (s.1.2.2.2.2.1.length+_)*_≤_;simp only [List.length_cons,List.length_nil];omega)) fun u hu=>Ok.inl ⟨wrapS (by omega),hs1,hs2,hs3,?_⟩)
     show u.length=_
     rw [hu,List.length_append]
     show s.1.2.2.2.2.1.length+1=_
     rw [hs4]
    ·exact Ok.no (by show ¬ ((t.length:Int)<_);omega) (Ok.inr ⟨hs.1,hs.2.1,hs.2.2.1,by show s.1.2.2.2.2.1.length≤100;rw [hs.2.2.2];exact ht.1⟩)
   ·show 1≤IntKind.wrap .i64 (p.2.2.1+(n+1))
    rw [hp.2.1,wrap64 (by omega) (by omega)]
    omega
   ·show i'.1+IntKind.wrap .i64 (p.2.2.1+(n+1))≤_
    rw [hp.2.1,wrap64 (by omega) (by omega)]
    omega
 ·cases d with
  | inl e=>exact Ok.some fun h=>absurd h hd
  | inr p=>exact Ok.some fun _=>hd
theorem next_ok {b:List Int} {at_:Int} (hb:b.length≤1048576) (h0:0≤at_) (h1:at_<b.length):Ok (code_Next b at_) fun r=>r.2=0→IOk b at_ r.1:=by
 unfold code_Next
 refine Ok.bind (Q:=fun r=>r.2=(0,(0,(0,(0,([],())))))) ?_ fun r hr=>Ok.cond (fun _=>Ok.some fun h=>(by cases h)) fun _=>?_
 ·repeat' first | exact Ok.some rfl | refine Ok.cond (fun _=>?_) (fun _=>?_)
 refine Ok.bind (Ok.at_ (Q:=fun _=>True) h0 (by omega) trivial) fun x _=>?_
 refine Ok.bind (Q:=fun _=>True) ⟨_,by unfold nn;rw [if_neg (by decide)],trivial⟩ fun k _=>?_
 refine Ok.bind (Ok.at_ (Q:=fun _=>True) h0 (by omega) trivial) fun y _=>Ok.ifs (fun _=>Ok.some fun h=>(by cases h)) fun _=>?_
 have hy:0≤bits .and .u8 y 15∧bits .and .u8 y 15≤255:=by unfold bits;exact wrap8_bd _
 have ey:IntKind.wrap .i64 (bits .and .u8 y 15)=bits .and .u8 y 15:=wrap64 (by omega) (by omega)
 refine Ok.bind (Q:=Nx (fun e:Int×Ins=>e.1≠0) (fun p:Int×(Ins×Ins)=>(0≤p.1∧p.1≤5000000000)∧p.2.2.1=at_∧1≤p.2.2.2.1∧at_+p.2.2.2.1≤b.length∧p.2.2.2.2.2.2.1=[])) ?_ fun d hd=>?_
 ·refine Ok.ifs (fun _=>?_) fun _=>Ok.inr ⟨⟨?_,?_⟩,rfl,by show (1:Int)≤1;omega,by show at_+1≤_;omega,rfl⟩
  ·have e1:IntKind.wrap .i64 (at_+1)=at_+1:=wrap64 (by omega) (by omega)
   refine Ok.bind (Ok.sub (Q:=fun t=>(t.length:Int)=b.length - (at_+1)) (by rw [e1];omega) (by rw [e1];omega) (by omega) (by rw [e1,List.length_take,List.length_drop];omega)) fun t ht=>?_
   refine Ok.bind (Q:=fun c=>c=(t,(0,(0,())))) ?_ fun c hc=>?_
   ·unfold octet_New
    refine Ok.bind (Q:=fun r=>r.length=t.length) ⟨_,by unfold made;rw [if_pos ⟨by omega,rfl,by omega⟩],by show (List.replicate _ _).length=_;rw [List.length_replicate];omega⟩ fun r hr=>Ok.some ?_
    show (List.append _ _,_)=_
    rw [hr,List.take_length,List.drop_eq_nil_of_le (by omega)]
    show (t++[],_)=_
    rw [List.append_nil]
   subst hc
   refine Ok.bind (uint_ok t (by omega)) fun u hu=>?_
   refine Ok.bind (Q:=fun r=>r.1=u.2.2.2.1∧r.2=u.2) ⟨_,rfl,rfl,rfl⟩ fun r hr=>?_
   refine Ok.ifs (fun h=>Ok.inl h) fun he=>Ok.ifs (fun _=>Ok.inl (by simp)) fun hv=>?_
   have hue:=hu.2 (by rw [← hr.1];exact Decidable.not_not.1 he)
   have hv: ¬ ((2147483632:Int)<u.1):=hv
   have hu1:=hu.1
   refine Ok.bind (Q:=fun a=>a=u.2.2.1) ⟨_,rfl,by rw [hr.2]⟩ fun a ha=>?_
   have e2:IntKind.wrap .i64 (IntKind.wrap .i64 u.1+15)=u.1+15:=by rw [wrap64 (x:=u.1) (by omega) (by omega)];exact wrap64 (by omega) (by omega)
   have e3:IntKind.wrap .i64 (1+a)=1+a:=wrap64 (by omega) (by omega)
   refine Ok.inr ⟨⟨?_,?_⟩,rfl,?_,?_,rfl⟩
   ·show 0≤IntKind.wrap .i64 (IntKind.wrap .i64 u.1+15)
    rw [e2];omega
   ·show IntKind.wrap .i64 (IntKind.wrap .i64 u.1+15)≤_
    rw [e2];omega
   ·show 1≤IntKind.wrap .i64 (1+a)
    rw [e3];omega
   ·show at_+IntKind.wrap .i64 (1+a)≤_
    rw [e3];omega
  ·show 0≤IntKind.wrap .i64 (bits .and .u8 y 15)
   rw [ey];exact hy.1
  ·show IntKind.wrap .i64 (bits .and .u8 y 15)≤_
   rw [ey];omega
 ·cases d with
  | inl e=>exact Ok.some fun h=>absurd h hd
  | inr p=>
   obtain ⟨⟨hp1,hp2⟩,hp3,hp4,hp5,hp6⟩:=hd
   refine Ok.ends ((finish_ok (by omega) (by rw [hp3];exact h0) hp4 (by rw [hp3];exact hp5) hp6 hp1 hp2).imp fun r hr h=>?_)
   have:=hr h
   rw [hp3] at this
   exact this
def Instrs (l:List Ins):Prop:=(∃ l' h,l=l'++[h]∧h.2.2.1=15∧ ∀ i∈l',i.2.2.1≠15)∧(∀ i∈l,(i.2.2.1=1→1≤i.2.2.2.1)∧i.2.2.2.2.1.length≤100)∧l.length≤1048577
theorem instrs_ok (b:List Int):Ok (code_Instrs b) fun r=>r.2.2=0→Instrs r.1:=by
 unfold code_Instrs
 refine Ok.ifs (fun _=>Ok.some fun h=>(by cases h)) fun hb=>?_
 refine Ok.bind (Q:=Nx (fun _=>True) (fun r:List Ins×(Int×Int)=>r.2.2=0→Instrs r.1)) ?_ fun r hr=>?_
 ·refine Ok.loop (fun k (z:Int×List Ins)=>(0≤z.1∧z.1+(k:Int)=b.length)∧(z.2.length:Int)≤z.1∧(∀ i∈z.2,i.2.2.1≠15)∧ ∀ i∈z.2,(i.2.2.1=1→1≤i.2.2.2.1)∧i.2.2.2.2.1.length≤100) (fun k z hz=>?_) b.length _ (by omega) ⟨⟨by show (0:Int)≤0;omega,by show (0:Int)+_=_;omega⟩,by show (0:Int)≤0;omega,by simp,by simp⟩
  obtain ⟨⟨hz1,hz2⟩,hz3,hz4,hz5⟩:=hz
  refine Ok.ifs (fun hlt=>?_) fun _=>Ok.inr trivial
  refine Ok.bind (next_ok (by omega) hz1 hlt) fun r hr=>Ok.ifs (fun he=>Ok.inr fun h=>absurd h he) fun he=>?_
  obtain ⟨hi1,hi2,hi3,hi4⟩:=hr (Decidable.not_not.1 he)
  have e1:IntKind.wrap .i64 (z.1+r.1.2.1)=z.1+r.1.2.1:=wrap64 (by omega) (by omega)
  refine Ok.bind (Ok.appE (by simp only [List.length_cons,List.length_nil];omega)) fun l hl=>?_
  have hl1:l.length=z.2.length+1:=by rw [hl,List.length_append];rfl
  have hl5: ∀ i∈l,(i.2.2.1=1→1≤i.2.2.2.1)∧i.2.2.2.2.1.length≤100:=fun i hi=>by
   rw [hl] at hi
   rcases List.mem_append.1 hi with hi | hi
   ·exact hz5 i hi
   ·rw [List.mem_singleton.1 hi];exact hi4
  refine Ok.ifs (fun h15=>Ok.ifs (fun _=>Ok.inr fun h=>(by cases h)) fun _=>Ok.inr fun _=>⟨⟨z.2,r.1,hl,h15,hz4⟩,hl5,?_⟩) fun h15=>Ok.inl ⟨(b.length - (z.1+r.1.2.1)).toNat,by omega,⟨?_,?_⟩,?_,?_,hl5⟩
  ·show l.length≤_
   omega
  ·show 0≤IntKind.wrap .i64 (z.1+r.1.2.1)
   rw [e1];omega
  ·show IntKind.wrap .i64 (z.1+r.1.2.1)+_=_
   rw [e1];omega
  ·show (l.length:Int)≤IntKind.wrap .i64 (z.1+r.1.2.1)
   rw [e1];omega
  ·show ∀ i∈l,_
   intro i hi
   rw [hl] at hi
   rcases List.mem_append.1 hi with hi | hi
   ·exact hz4 i hi
   ·rw [List.mem_singleton.1 hi];exact h15
 ·cases r with
  | inl _=>exact Ok.some fun h=>(by cases h)
  | inr r=>exact Ok.some hr
end Go.Fn
