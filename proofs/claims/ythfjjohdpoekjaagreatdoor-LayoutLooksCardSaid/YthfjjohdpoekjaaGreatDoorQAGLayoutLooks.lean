/- The law LayoutLooks: for every input. -/
import Derived.Test.YthfjjohdpoekjaaGreatDoorCards
import Derived.Test.YthfjjohdpoekjaaGreatDoorTie
import Derived.Test.YthfjjohdpoekjaaGreatDoorQAF
import Derived.Test.YthfjjohdpoekjaaGreatDoorQAD
import Derived.Deep.DeepWitnessRowRef
import Derived.Stop.LaidErr
import Derived.Lib.LaidTab
import Derived.Lib.LaidU8T
import Derived.ChangeMaps5
namespace Go.Proofs.YthfjjohdpoekjaaGreatDoor.layoutLooks
open Go Go.Lf Go.ChangeShapes Go.WideShapes Go.ChangeAt Go.RowKit
theorem own:ownKnob Tryz.prog.godebug=none:=by kernel_rfl
theorem lo:laidOutB Tryz.prog=true:=by kernel_rfl
theorem rd:Ck Tryz.prog Tryz.f3.params.toList=true:=by kernel_rfl
theorem Wd:(Rows.laid_internal_strconv_uint64pow10:DataW Unit)=Lib.tabData .u64 Lib.pow10Tab:=by kernel_rfl
theorem pow {W:World} (h:laidMetH Tryz.prog Rows.layoutLooksRow.laid W):Lib.TabIs Tryz.prog W "internal/strconv.uint64pow10" .u64 Lib.pow10Tab:=by
 have h1:laidMet Tryz.prog Rows.layoutLooksRow.laid W:=h
 replace h1:=laidMet.tail h1
 replace h1:=laidMet.tail h1
 rw [Wd] at h1
 exact Lib.tabIs_of_head (g:=2) (t:=222) (e:=111) (n:=20) (by kernel_rfl) (by kernel_rfl) (by kernel_rfl) (by kernel_rfl) (by kernel_rfl) (by kernel_rfl) h1
def ren:Go.Shelf.Ren:=⟨fun n=>n,fun n=>if n=5 then 5 else if n=119 then 209 else if n=138 then 212 else if n=139 then 213 else n,fun n=>if n=3 then 0 else if n=4 then 1 else n⟩
theorem QY:(Rows.laid_unicode_utf8_first:DataW Unit)=Lib.firstData:=by kernel_rfl
theorem O4:(Rows.laid_unicode_utf8_acceptRanges:DataW Unit)=Lib.acceptData:=by kernel_rfl
theorem tabs {W:World} (h:laidMetH Tryz.prog Rows.layoutLooksRow.laid W):Lib.Utf8Tabs 0 1 W:=by
 have h1:laidMet Tryz.prog Rows.layoutLooksRow.laid W:=h
 refine Go.Proofs.utf8Tabs_of_readsT (P:=Tryz.prog) (ρ:=ren) ⟨by kernel_rfl,by kernel_rfl,by kernel_rfl,by kernel_rfl⟩ ⟨by kernel_rfl,by kernel_rfl,by kernel_rfl,by kernel_rfl,by kernel_rfl,by kernel_rfl,by kernel_rfl⟩ ?_ ?_
 ·rw [← QY];exact Lib.laidMet.reads h1 (.tail _ (.tail _ (.tail _ (.tail _ (.head _)))))
 ·rw [← O4];exact Lib.laidMet.reads h1 (.tail _ (.tail _ (.tail _ (.head _))))
set_option maxRecDepth 100000 in
theorem contract (H:Type) (enc:TypeId×Value→H) (W:World) (base:Nat) (args:Array Value) (ds gs:List (DataW H)) (before:List MemPlace)
  (hval: ∀ (j:Nat) t v,Tryz.f3.params[j]? =some t→args[j]? =some v→Value.okWide Tryz.prog W .any base t v)
  (hW:DataW.Whole enc Tryz.prog Tryz.f3.params.toList Rows.layoutLooksSpec.vars false W args.toList ds gs before) (hz:(DataW.weightsEach Tryz.prog (Tryz.f3.params.toList++[]) (ds++gs)).all (· ≤reachBytes)=true) (hL:laidMetH Tryz.prog Rows.layoutLooksRow.laid W) (hS:W.ShapedOpen Tryz.prog):
  Calls Tryz.prog 3 args W fun e W'=> ∃ v,e= .returned v∧Rows.layoutLooksSpec.post enc Tryz.prog Tryz.f3 false true false false W args v W':=by
 have hW':=hW
 obtain ⟨p,q,hA0,hV,rfl,_,_⟩:=hW
 have hA:DataW.TrodAll enc Tryz.prog W 0 (fun _=>true) true Tryz.f3.params.toList args.toList ds p:=hA0
 rw [Tryz.params3] at hA hval hz
 obtain ⟨v0,vs0,d0,ds0,p0,q0,hargs,rfl,rfl,h0,r0⟩:=trodAll_cons hA
 obtain ⟨v1,vs1,d1,ds1,p1,q1,rfl,rfl,rfl,h1,r1⟩:=trodAll_cons r0
 obtain ⟨v2,vs2,d2,ds2,p2,q2,rfl,rfl,rfl,h2,r2⟩:=trodAll_cons r1
 obtain ⟨v3,vs3,d3,ds3,p3,q3,rfl,rfl,rfl,h3,r3⟩:=trodAll_cons r2
 obtain ⟨rfl,rfl,rfl⟩:=trodAll_nil r3
 obtain rfl:args= #[v0,v1,v2,v3]:=by cases args;simp_all
 obtain ⟨rfl,rfl⟩:=trodVars_none hV
 obtain ⟨x0,c0,t0,rfl,rp0,wf0⟩:=za (a:=(.sl (.st (.pr .str (.pr .str (.pr (.st (.pr (.int .i64) (.pr (.int .i64) (.pr (.int .i64) .unit)))) .unit)))))) (by kernel_rfl) (hval 0 22 v0 rfl rfl) h0 (wX hz (j:=0) rfl rfl)
 obtain ⟨x1,c1,t1,rfl,rp1,wf1⟩:=za (a:=(.sl (.st (.pr (.int .i64) (.pr (.int .i64) (.pr .str (.pr (.sl (.int .i64)) .unit))))))) (by kernel_rfl) (hval 1 23 v1 rfl rfl) h1 (wX hz (j:=1) rfl rfl)
 obtain ⟨x2,c2,t2,rfl,rp2,wf2⟩:=za (a:=(.int .i64)) (by kernel_rfl) (hval 2 3 v2 rfl rfl) h2 (wX hz (j:=2) rfl rfl)
 obtain ⟨x3,c3,t3,rfl,rp3,wf3⟩:=za (a:=(.int .i64)) (by kernel_rfl) (hval 3 3 v3 rfl rfl) h3 (wX hz (j:=3) rfl rfl)
 have ha:bP (vZ W) [.val (.sl (.st (.pr .str (.pr .str (.pr (.st (.pr (.int .i64) (.pr (.int .i64) (.pr (.int .i64) .unit)))) .unit))))), .val (.sl (.st (.pr (.int .i64) (.pr (.int .i64) (.pr .str (.pr (.sl (.int .i64)) .unit)))))), .val (.int .i64), .val (.int .i64)] (x0,x1,x2,x3) [sv (.sl (.st (.pr .str (.pr .str (.pr (.st (.pr (.int .i64) (.pr (.int .i64) (.pr (.int .i64) .unit)))) .unit))))) c0,sv (.sl (.st (.pr (.int .i64) (.pr (.int .i64) (.pr .str (.pr (.sl (.int .i64)) .unit)))))) c1,sv (.int .i64) c2,sv (.int .i64) c3] [] []:=bP.val (t:=(.sl (.st (.pr .str (.pr .str (.pr (.st (.pr (.int .i64) (.pr (.int .i64) (.pr (.int .i64) .unit)))) .unit)))))) (r:=[.val (.sl (.st (.pr (.int .i64) (.pr (.int .i64) (.pr .str (.pr (.sl (.int .i64)) .unit)))))), .val (.int .i64), .val (.int .i64)]) (z:=(x0,x1,x2,x3)) (h:=[]) (hs:=[]) t0 rp0 (bP.val (t:=(.sl (.st (.pr (.int .i64) (.pr (.int .i64) (.pr .str (.pr (.sl (.int .i64)) .unit))))))) (r:=[.val (.int .i64), .val (.int .i64)]) (z:=(x1,x2,x3)) (h:=[]) (hs:=[]) t1 rp1 (bP.val (t:=(.int .i64)) (r:=[.val (.int .i64)]) (z:=(x2,x3)) (h:=[]) (hs:=[]) t2 rp2 (bP.val (t:=(.int .i64)) (r:=[]) (z:=x3) (h:=[]) (hs:=[]) t3 rp3 (.nil))))
 have hG:wh W Go.Fn.GG:=fun w' hb=>⟨MG (pow hL) w' hb,Go.Fn.JO (tabs hL) hb⟩
 have hp:Go.Fn.dB x0 x1 x2 x3=some true:=Go.Fn.KJ x0 x1 x2 x3 wf0 wf1
 have hq:(Go.Fn.dH.2).f (x0,x1,x2,x3)=some true:=by delta Go.Fn.dH;dsimp only;exact hp
 exact (ME (e:=Go.Fn.dH.2) (z:=(x0,x1,x2,x3)) (r:=true) Go.Fn.rX rfl rfl hq rfl ha hG).mono fun e W' he=>⟨_,he.1,OQ lo rd rfl rfl Tryz.underlying4 hW' rfl he.2⟩
noncomputable def Ae (os:Os):World:=
 let w0:=World.holding Tryz.prog os ⟨#[], #[],[]⟩
 { w0 with heap:=(((((w0.heap.modify 3 fun | .cells _ t frozen=> .cells #[.int .u8 0, .int .u8 1, .int .u8 28, .int .u8 2, .int .u8 29, .int .u8 14, .int .u8 24, .int .u8 3, .int .u8 30, .int .u8 22, .int .u8 20, .int .u8 15, .int .u8 25, .int .u8 17, .int .u8 4, .int .u8 8, .int .u8 31, .int .u8 27, .int .u8 13, .int .u8 23, .int .u8 21, .int .u8 19, .int .u8 16, .int .u8 7, .int .u8 26, .int .u8 12, .int .u8 18, .int .u8 6, .int .u8 11, .int .u8 5, .int .u8 10, .int .u8 9] t frozen | o=>o).modify 4 fun | .cells _ t frozen=> .cells #[.int .u8 0, .int .u8 1, .int .u8 56, .int .u8 2, .int .u8 57, .int .u8 49, .int .u8 28, .int .u8 3, .int .u8 61, .int .u8 58, .int .u8 42, .int .u8 50, .int .u8 38, .int .u8 29, .int .u8 17, .int .u8 4, .int .u8 62, .int .u8 47, .int .u8 59, .int .u8 36, .int .u8 45, .int .u8 43, .int .u8 51, .int .u8 22, .int .u8 53, .int .u8 39, .int .u8 33, .int .u8 30, .int .u8 24, .int .u8 18, .int .u8 12, .int .u8 5, .int .u8 63, .int .u8 55, .int .u8 48, .int .u8 27, .int .u8 60, .int .u8 41, .int .u8 37, .int .u8 16, .int .u8 46, .int .u8 35, .int .u8 44, .int .u8 21, .int .u8 52, .int .u8 32, .int .u8 23, .int .u8 11, .int .u8 54, .int .u8 26, .int .u8 40, .int .u8 15, .int .u8 34, .int .u8 20, .int .u8 31, .int .u8 10, .int .u8 25, .int .u8 14, .int .u8 19, .int .u8 9, .int .u8 13, .int .u8 8, .int .u8 7, .int .u8 6] t frozen | o=>o).modify 2 fun | .cells _ t frozen=> .cells #[.int .u64 1, .int .u64 10, .int .u64 100, .int .u64 1000, .int .u64 10000, .int .u64 100000, .int .u64 1000000, .int .u64 10000000, .int .u64 100000000, .int .u64 1000000000, .int .u64 10000000000, .int .u64 100000000000, .int .u64 1000000000000, .int .u64 10000000000000, .int .u64 100000000000000, .int .u64 1000000000000000, .int .u64 10000000000000000, .int .u64 100000000000000000, .int .u64 1000000000000000000, .int .u64 10000000000000000000] t frozen | o=>o).modify 1 fun | .cells _ t frozen=> .cells #[.int .u8 128, .int .u8 191, .int .u8 160, .int .u8 191, .int .u8 128, .int .u8 159, .int .u8 144, .int .u8 191, .int .u8 128, .int .u8 143, .int .u8 0, .int .u8 0, .int .u8 0, .int .u8 0, .int .u8 0, .int .u8 0, .int .u8 0, .int .u8 0, .int .u8 0, .int .u8 0, .int .u8 0, .int .u8 0, .int .u8 0, .int .u8 0, .int .u8 0, .int .u8 0, .int .u8 0, .int .u8 0, .int .u8 0, .int .u8 0, .int .u8 0, .int .u8 0] t frozen | o=>o).modify 0 fun | .cells _ t frozen=> .cells (match Go.Pinned.utf8First with | .agg l=>(l.map fun d=>match d with | .lit (.int kk z)=>Value.int kk z | _=> .bool false).toArray | _=> #[]) t frozen | o=>o) }
theorem Pw (os:Os):laidMet Tryz.prog Rows.layoutLooksRow.laid ((Ae os).forCall (fun _ _=>0) ⟨#[], #[.slice none 0 0, .slice none 0 0, .int .i64 0, .int .i64 0],[]⟩).memory:=
 laidMet_of_run' 8 (by kernel_rfl) (by kernel_rfl)
theorem reads (os:Os) {H:Type} (enc:TypeId×Value→H): ∃ places,DataW.whole enc Tryz.prog ((Ae os).forCall (fun _ _=>0) ⟨#[], #[.slice none 0 0, .slice none 0 0, .int .i64 0, .int .i64 0],[]⟩).memory Tryz.f3.params.toList Rows.layoutLooksSpec.vars false #[Value.slice none 0 0, .slice none 0 0, .int .i64 0, .int .i64 0].toList 8=some ([.nil, .nil, .lit (.int .i64 0), .lit (.int .i64 0)],[],places):=
 ⟨[],by kernel_rfl⟩
set_option maxRecDepth 100000 in
theorem lifted (os:Os) (started:os.Started) (H:Type) (enc:TypeId×Value→H) (F:Stop.Interp):
  ReturnsInHanded {} Tryz.checked os 3 .any ((OpenSpec.ofChange Rows.layoutLooksSpec).preRow enc Tryz.prog Tryz.f3 Rows.layoutLooksRow.domain false Rows.layoutLooksRow.laid) (((OpenSpec.ofChange Rows.layoutLooksSpec).at F).post enc Tryz.prog Tryz.f3 false true false false):=by
 obtain ⟨places,hx⟩:=reads os enc
 refine returnsInHanded_of_row (C:=Tryz.checked) (s:=(OpenSpec.ofChange Rows.layoutLooksSpec)) own started (by kernel_rfl) Tryz.func3
  (witness_row_at (enc:=enc) (C:=Tryz.checked) false (Ae os) #[.slice none 0 0, .slice none 0 0, .int .i64 0, .int .i64 0] rfl (by kernel_rfl) (by kernel_rfl) (by kernel_rfl)
   (OpenSpec.preRow_of_cond 8 hx (by kernel_rfl) (fun k hk=>by cases hk) (by kernel_rfl) (Pw os))) ?_
 intro W base args ds gs before hval hW _ hcond hz hL hS _
 exact contract H enc W base args ds gs before hval hW hz hL hS
theorem said:Rows.LayoutLooksSaid:=
 OpenClaim.holds_of_cond 3 Tryz.f3 rfl rfl rfl rfl rfl rfl rfl ⟨rfl,rfl,rfl,rfl,rfl⟩ rfl rfl rfl rfl rfl (by kernel_rfl) Tryz.func3 (by kernel_rfl)
  (of_decide_eq_true (by kernel_rfl)) (by unfold Func.isWrapper;first | (rw [if_pos (by decide+kernel)];kernel_rfl) | (rw [if_neg (by decide+kernel)];exact ⟨rfl,rfl⟩))
  (fun os started H enc _ F=>by rw [OpenClaim.pre_eq_preRow];exact lifted os started H enc F)
theorem plain (f:FuncId) (fn:Func) (hf:Tryz.pinned.checked.prog.funcNamed "folio/foliolaw13.LayoutLooks" =some f) (hfn:Tryz.pinned.checked.prog.funcs[f]? =some fn):
  false=Tryz.pinned.checked.prog.looks []∧ ∀ (j:Nat) t,fn.params[j]? =some t→Tryz.pinned.checked.prog.wantsStandIn t=false:=by
 obtain rfl:f=3:=Option.some.inj ((show Tryz.prog.funcNamed "folio/foliolaw13.LayoutLooks" =some 3 by kernel_rfl).symm.trans hf) |>.symm
 obtain rfl:fn=Tryz.f3:=(Option.some.inj (Tryz.func3.symm.trans hfn)).symm
 refine ⟨by kernel_rfl,fun j t ht=>?_⟩
 rw [Tryz.params3] at ht
 have h:t∈[22,23,3,3]:=by have:=Array.mem_of_getElem? ht;simpa using this
 have hall:([22,23,3,3]:List TypeId).all (fun t=>Tryz.prog.wantsStandIn t ==false)=true:=by kernel_rfl
 exact eq_of_beq (List.all_eq_true.1 hall t h)
theorem holds:Rows.LayoutLooksCardSaid:=
 Claim7.holds_tied_plain_at .later [] _ _ _ _ said (fun _ h=>by cases h) (by kernel_rfl) (fun _ h=>by cases h) layoutLooks_row_tie rfl ⟨rfl,rfl⟩ (by kernel_rfl) rfl plain (by kernel_rfl)
end Go.Proofs.YthfjjohdpoekjaaGreatDoor.layoutLooks
