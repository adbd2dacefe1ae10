/- The law VmHalts: for every input. -/
import Derived.Test.YtabfljbbjpfcgaaGreatDoorCards
import Derived.Test.YtabfljbbjpfcgaaGreatDoorTie
import Derived.Test.YtabfljbbjpfcgaaGreatDoorQAF
import Derived.Deep.DeepWitnessRowRef
import Derived.Stop.LaidErr
import Derived.Lib.LaidTab
import Derived.Lib.LaidU8T
import Derived.ChangeMaps5
namespace Go.Proofs.YtabfljbbjpfcgaaGreatDoor.vmHalts
open Go Go.Lf Go.ChangeShapes Go.WideShapes Go.ChangeAt Go.RowKit
theorem own:ownKnob Tryz.prog.godebug=none:=by kernel_rfl
theorem lo:laidOutB Tryz.prog=true:=by kernel_rfl
theorem rd:allRead Tryz.prog Tryz.f5.params.toList=true:=by kernel_rfl
theorem e_pow:(Rows.laid_internal_strconv_uint64pow10:DataW Unit)=Lib.tabData .u64 Lib.pow10Tab:=by kernel_rfl
theorem pow {W:World} (h:laidMetH Tryz.prog Rows.vmHaltsRow.laid W):Lib.TabIs Tryz.prog W "internal/strconv.uint64pow10" .u64 Lib.pow10Tab:=by
 have h1:laidMet Tryz.prog Rows.vmHaltsRow.laid W:=h
 replace h1:=laidMet.tail h1
 replace h1:=laidMet.tail h1
 rw [e_pow] at h1
 exact Lib.tabIs_of_head (g:=2) (t:=257) (e:=167) (n:=20) (by kernel_rfl) (by kernel_rfl) (by kernel_rfl) (by kernel_rfl) (by kernel_rfl) (by kernel_rfl) h1
def ren:Go.Shelf.Ren:=⟨fun n=>n,fun n=>if n=5 then 5 else if n=119 then 252 else if n=138 then 254 else if n=139 then 255 else n,fun n=>if n=3 then 0 else if n=4 then 1 else n⟩
theorem e_first:(Rows.laid_unicode_utf8_first:DataW Unit)=Lib.firstData:=by kernel_rfl
theorem e_accept:(Rows.laid_unicode_utf8_acceptRanges:DataW Unit)=Lib.acceptData:=by kernel_rfl
theorem tabs {W:World} (h:laidMetH Tryz.prog Rows.vmHaltsRow.laid W):Lib.Utf8Tabs 0 1 W:=by
 have h1:laidMet Tryz.prog Rows.vmHaltsRow.laid W:=h
 refine Go.Proofs.utf8Tabs_of_readsT (P:=Tryz.prog) (ρ:=ren) ⟨by kernel_rfl,by kernel_rfl,by kernel_rfl,by kernel_rfl⟩ ⟨by kernel_rfl,by kernel_rfl,by kernel_rfl,by kernel_rfl,by kernel_rfl,by kernel_rfl,by kernel_rfl⟩ ?_ ?_
 ·rw [← e_first];exact Lib.laidMet.reads h1 (.tail _ (.tail _ (.tail _ (.tail _ (.head _)))))
 ·rw [← e_accept];exact Lib.laidMet.reads h1 (.tail _ (.tail _ (.tail _ (.head _))))
set_option maxRecDepth 100000 in
theorem contract (H:Type) (enc:TypeId×Value→H) (W:World) (base:Nat) (args:Array Value) (ds gs:List (DataW H)) (before:List MemPlace)
  (hval: ∀ (j:Nat) t v,Tryz.f5.params[j]? =some t→args[j]? =some v→Value.okWide Tryz.prog W .any base t v)
  (hW:DataW.Whole enc Tryz.prog Tryz.f5.params.toList Rows.vmHaltsSpec.vars false W args.toList ds gs before) (hz:(DataW.weightsEach Tryz.prog (Tryz.f5.params.toList++[]) (ds++gs)).all (· ≤reachBytes)=true) (hL:laidMetH Tryz.prog Rows.vmHaltsRow.laid W) (hS:W.ShapedOpen Tryz.prog):
  Calls Tryz.prog 5 args W fun e W'=> ∃ v,e= .returned v∧Rows.vmHaltsSpec.post enc Tryz.prog Tryz.f5 false true false false W args v W':=by
 have hW':=hW
 obtain ⟨p,q,hA0,hV,rfl,_,_⟩:=hW
 have hA:DataW.TrodAll enc Tryz.prog W 0 (fun _=>true) true Tryz.f5.params.toList args.toList ds p:=hA0
 rw [Tryz.params5] at hA hval hz
 obtain ⟨v0,vs0,d0,ds0,p0,q0,hargs,rfl,rfl,h0,r0⟩:=trodAll_cons hA
 obtain ⟨v1,vs1,d1,ds1,p1,q1,rfl,rfl,rfl,h1,r1⟩:=trodAll_cons r0
 obtain ⟨v2,vs2,d2,ds2,p2,q2,rfl,rfl,rfl,h2,r2⟩:=trodAll_cons r1
 obtain ⟨v3,vs3,d3,ds3,p3,q3,rfl,rfl,rfl,h3,r3⟩:=trodAll_cons r2
 obtain ⟨v4,vs4,d4,ds4,p4,q4,rfl,rfl,rfl,h4,r4⟩:=trodAll_cons r3
 obtain ⟨rfl,rfl,rfl⟩:=trodAll_nil r4
 obtain rfl:args= #[v0,v1,v2,v3,v4]:=by cases args;simp_all
 obtain ⟨rfl,rfl⟩:=trodVars_none hV
 obtain ⟨x0,c0,t0,rfl,rp0,wf0⟩:=open_arg (a:=(.sl (.st (.pr .str (.pr .str (.pr (.st (.pr (.int .i64) (.pr (.int .i64) (.pr (.int .i64) .unit)))) .unit)))))) (by kernel_rfl) (hval 0 22 v0 rfl rfl) h0 (light_arg hz (j:=0) rfl rfl)
 obtain ⟨x1,c1,t1,rfl,rp1,wf1⟩:=open_arg (a:=(.sl (.int .u8))) (by kernel_rfl) (hval 1 23 v1 rfl rfl) h1 (light_arg hz (j:=1) rfl rfl)
 obtain ⟨x2,c2,t2,rfl,rp2,wf2⟩:=open_arg (a:= .str) (by kernel_rfl) (hval 2 9 v2 rfl rfl) h2 (light_arg hz (j:=2) rfl rfl)
 obtain ⟨x3,c3,t3,rfl,rp3,wf3⟩:=open_arg (a:=(.int .i64)) (by kernel_rfl) (hval 3 3 v3 rfl rfl) h3 (light_arg hz (j:=3) rfl rfl)
 obtain ⟨x4,c4,t4,rfl,rp4,wf4⟩:=open_arg (a:=(.int .i64)) (by kernel_rfl) (hval 4 3 v4 rfl rfl) h4 (light_arg hz (j:=4) rfl rfl)
 have ha:ArgsR (phiOf W) [.val (.sl (.st (.pr .str (.pr .str (.pr (.st (.pr (.int .i64) (.pr (.int .i64) (.pr (.int .i64) .unit)))) .unit))))), .val (.sl (.int .u8)), .val .str, .val (.int .i64), .val (.int .i64)] (x0,x1,x2,x3,x4) [sv (.sl (.st (.pr .str (.pr .str (.pr (.st (.pr (.int .i64) (.pr (.int .i64) (.pr (.int .i64) .unit)))) .unit))))) c0,sv (.sl (.int .u8)) c1,sv .str c2,sv (.int .i64) c3,sv (.int .i64) c4] [] []:=ArgsR.val (t:=(.sl (.st (.pr .str (.pr .str (.pr (.st (.pr (.int .i64) (.pr (.int .i64) (.pr (.int .i64) .unit)))) .unit)))))) (r:=[.val (.sl (.int .u8)), .val .str, .val (.int .i64), .val (.int .i64)]) (z:=(x0,x1,x2,x3,x4)) (h:=[]) (hs:=[]) t0 rp0 (ArgsR.val (t:=(.sl (.int .u8))) (r:=[.val .str, .val (.int .i64), .val (.int .i64)]) (z:=(x1,x2,x3,x4)) (h:=[]) (hs:=[]) t1 rp1 (ArgsR.val (t:= .str) (r:=[.val (.int .i64), .val (.int .i64)]) (z:=(x2,x3,x4)) (h:=[]) (hs:=[]) t2 rp2 (ArgsR.val (t:=(.int .i64)) (r:=[.val (.int .i64)]) (z:=(x3,x4)) (h:=[]) (hs:=[]) t3 rp3 (ArgsR.val (t:=(.int .i64)) (r:=[]) (z:=x4) (h:=[]) (hs:=[]) t4 rp4 (.nil)))))
 have hG:Lasts W Go.Fn.GG:=fun w' hb=>⟨lasts_var (pow hL) w' hb,Go.Fn.tabs_below (tabs hL) hb⟩
 have hp:Go.Fn.foliolaw18_VmHalts x0 x1 x2 x3 x4=some true:=Go.Fn.halts_true x0 x1 x2 x3 x4 wf0.1 wf1.1
 have hq:(Go.Fn.foliolaw18_VmHaltsEnt.2).f (x0,x1,x2,x3,x4)=some true:=by delta Go.Fn.foliolaw18_VmHaltsEnt;dsimp only;exact hp
 exact (law_calls (e:=Go.Fn.foliolaw18_VmHaltsEnt.2) (z:=(x0,x1,x2,x3,x4)) (r:=true) Go.Fn.foliolaw18_VmHalts_ok rfl rfl hq rfl ha hG).mono fun e W' he=>⟨_,he.1,law_post lo rd rfl rfl Tryz.underlying4 hW' rfl he.2⟩
noncomputable def laidWorld (os:Os):World:=
 let w0:=World.holding Tryz.prog os ⟨#[], #[],[]⟩
 { w0 with heap:=(((((w0.heap.modify 3 fun | .cells _ t frozen=> .cells #[.int .u8 0, .int .u8 1, .int .u8 28, .int .u8 2, .int .u8 29, .int .u8 14, .int .u8 24, .int .u8 3, .int .u8 30, .int .u8 22, .int .u8 20, .int .u8 15, .int .u8 25, .int .u8 17, .int .u8 4, .int .u8 8, .int .u8 31, .int .u8 27, .int .u8 13, .int .u8 23, .int .u8 21, .int .u8 19, .int .u8 16, .int .u8 7, .int .u8 26, .int .u8 12, .int .u8 18, .int .u8 6, .int .u8 11, .int .u8 5, .int .u8 10, .int .u8 9] t frozen | o=>o).modify 4 fun | .cells _ t frozen=> .cells #[.int .u8 0, .int .u8 1, .int .u8 56, .int .u8 2, .int .u8 57, .int .u8 49, .int .u8 28, .int .u8 3, .int .u8 61, .int .u8 58, .int .u8 42, .int .u8 50, .int .u8 38, .int .u8 29, .int .u8 17, .int .u8 4, .int .u8 62, .int .u8 47, .int .u8 59, .int .u8 36, .int .u8 45, .int .u8 43, .int .u8 51, .int .u8 22, .int .u8 53, .int .u8 39, .int .u8 33, .int .u8 30, .int .u8 24, .int .u8 18, .int .u8 12, .int .u8 5, .int .u8 63, .int .u8 55, .int .u8 48, .int .u8 27, .int .u8 60, .int .u8 41, .int .u8 37, .int .u8 16, .int .u8 46, .int .u8 35, .int .u8 44, .int .u8 21, .int .u8 52, .int .u8 32, .int .u8 23, .int .u8 11, .int .u8 54, .int .u8 26, .int .u8 40, .int .u8 15, .int .u8 34, .int .u8 20, .int .u8 31, .int .u8 10, .int .u8 25, .int .u8 14, .int .u8 19, .int .u8 9, .int .u8 13, .int .u8 8, .int .u8 7, .int .u8 6] t frozen | o=>o).modify 2 fun | .cells _ t frozen=> .cells #[.int .u64 1, .int .u64 10, .int .u64 100, .int .u64 1000, .int .u64 10000, .int .u64 100000, .int .u64 1000000, .int .u64 10000000, .int .u64 100000000, .int .u64 1000000000, .int .u64 10000000000, .int .u64 100000000000, .int .u64 1000000000000, .int .u64 10000000000000, .int .u64 100000000000000, .int .u64 1000000000000000, .int .u64 10000000000000000, .int .u64 100000000000000000, .int .u64 1000000000000000000, .int .u64 10000000000000000000] t frozen | o=>o).modify 1 fun | .cells _ t frozen=> .cells #[.int .u8 128, .int .u8 191, .int .u8 160, .int .u8 191, .int .u8 128, .int .u8 159, .int .u8 144, .int .u8 191, .int .u8 128, .int .u8 143, .int .u8 0, .int .u8 0, .int .u8 0, .int .u8 0, .int .u8 0, .int .u8 0, .int .u8 0, .int .u8 0, .int .u8 0, .int .u8 0, .int .u8 0, .int .u8 0, .int .u8 0, .int .u8 0, .int .u8 0, .int .u8 0, .int .u8 0, .int .u8 0, .int .u8 0, .int .u8 0, .int .u8 0, .int .u8 0] t frozen | o=>o).modify 0 fun | .cells _ t frozen=> .cells (match Go.Pinned.utf8First with | .agg l=>(l.map fun d=>match d with | .lit (.int kk z)=>Value.int kk z | _=> .bool false).toArray | _=> #[]) t frozen | o=>o) }
theorem laid_met (os:Os):laidMet Tryz.prog Rows.vmHaltsRow.laid ((laidWorld os).forCall (fun _ _=>0) ⟨#[], #[.slice none 0 0, .slice none 0 0, .string ⟨#[]⟩, .int .i64 0, .int .i64 0],[]⟩).memory:=
 laidMet_of_run' 8 (by kernel_rfl) (by kernel_rfl)
theorem reads (os:Os) {H:Type} (enc:TypeId×Value→H): ∃ places,DataW.whole enc Tryz.prog ((laidWorld os).forCall (fun _ _=>0) ⟨#[], #[.slice none 0 0, .slice none 0 0, .string ⟨#[]⟩, .int .i64 0, .int .i64 0],[]⟩).memory Tryz.f5.params.toList Rows.vmHaltsSpec.vars false #[Value.slice none 0 0, .slice none 0 0, .string ⟨#[]⟩, .int .i64 0, .int .i64 0].toList 8=some ([.nil, .nil, .lit (.string []), .lit (.int .i64 0), .lit (.int .i64 0)],[],places):=
 ⟨[],by kernel_rfl⟩
set_option maxRecDepth 100000 in
theorem lifted (os:Os) (started:os.Started) (H:Type) (enc:TypeId×Value→H) (F:Stop.Interp):
  ReturnsInHanded {} Tryz.checked os 5 .any ((OpenSpec.ofChange Rows.vmHaltsSpec).preRow enc Tryz.prog Tryz.f5 Rows.vmHaltsRow.domain false Rows.vmHaltsRow.laid) (((OpenSpec.ofChange Rows.vmHaltsSpec).at F).post enc Tryz.prog Tryz.f5 false true false false):=by
 obtain ⟨places,hx⟩:=reads os enc
 refine returnsInHanded_of_row (C:=Tryz.checked) (s:=(OpenSpec.ofChange Rows.vmHaltsSpec)) own started (by kernel_rfl) Tryz.func5
  (witness_row_at (enc:=enc) (C:=Tryz.checked) false (laidWorld os) #[.slice none 0 0, .slice none 0 0, .string ⟨#[]⟩, .int .i64 0, .int .i64 0] rfl (by kernel_rfl) (by kernel_rfl) (by kernel_rfl)
   (OpenSpec.preRow_of_cond 8 hx (by kernel_rfl) (fun k hk=>by cases hk) (by kernel_rfl) (laid_met os))) ?_
 intro W base args ds gs before hval hW _ hcond hz hL hS _
 exact contract H enc W base args ds gs before hval hW hz hL hS
theorem said:Rows.VmHaltsSaid:=
 OpenClaim.holds_of_cond 5 Tryz.f5 rfl rfl rfl rfl rfl rfl rfl ⟨rfl,rfl,rfl,rfl,rfl⟩ rfl rfl rfl rfl rfl (by kernel_rfl) Tryz.func5 (by kernel_rfl)
  (of_decide_eq_true (by kernel_rfl)) (by unfold Func.isWrapper;first | (rw [if_pos (by decide+kernel)];kernel_rfl) | (rw [if_neg (by decide+kernel)];exact ⟨rfl,rfl⟩))
  (fun os started H enc _ F=>by rw [OpenClaim.pre_eq_preRow];exact lifted os started H enc F)
theorem plain (f:FuncId) (fn:Func) (hf:Tryz.pinned.checked.prog.funcNamed "folio/foliolaw18.VmHalts" =some f) (hfn:Tryz.pinned.checked.prog.funcs[f]? =some fn):
  false=Tryz.pinned.checked.prog.looks []∧ ∀ (j:Nat) t,fn.params[j]? =some t→Tryz.pinned.checked.prog.wantsStandIn t=false:=by
 obtain rfl:f=5:=Option.some.inj ((show Tryz.prog.funcNamed "folio/foliolaw18.VmHalts" =some 5 by kernel_rfl).symm.trans hf) |>.symm
 obtain rfl:fn=Tryz.f5:=(Option.some.inj (Tryz.func5.symm.trans hfn)).symm
 refine ⟨by kernel_rfl,fun j t ht=>?_⟩
 rw [Tryz.params5] at ht
 have h:t∈[22,23,9,3,3]:=by have:=Array.mem_of_getElem? ht;simpa using this
 have hall:([22,23,9,3,3]:List TypeId).all (fun t=>Tryz.prog.wantsStandIn t ==false)=true:=by kernel_rfl
 exact eq_of_beq (List.all_eq_true.1 hall t h)
theorem holds:Rows.VmHaltsCardSaid:=
 Claim7.holds_tied_plain_at .later [] _ _ _ _ said (fun _ h=>by cases h) (by kernel_rfl) (fun _ h=>by cases h) vmHalts_row_tie rfl ⟨rfl,rfl⟩ (by kernel_rfl) rfl plain (by kernel_rfl)
end Go.Proofs.YtabfljbbjpfcgaaGreatDoor.vmHalts
