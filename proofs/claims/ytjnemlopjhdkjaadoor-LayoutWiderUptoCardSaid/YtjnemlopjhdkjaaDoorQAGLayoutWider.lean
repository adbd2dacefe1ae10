/- The law LayoutWider: for every input. -/
import Derived.Test.YtjnemlopjhdkjaaDoorCards
import Derived.Test.YtjnemlopjhdkjaaDoorTie
import Derived.Test.YtjnemlopjhdkjaaDoorQAF
import Derived.Test.YtjnemlopjhdkjaaDoorQAD
import Derived.Deep.DeepWitnessRowRef
import Derived.Stop.LaidErr
import Derived.Lib.LaidTab
import Derived.Lib.LaidU8T
import Derived.ChangeMaps5
namespace Go.Proofs.YtjnemlopjhdkjaaDoor.layoutWiderUpto
open Go Go.Lf Go.ChangeShapes Go.WideShapes Go.ChangeAt Go.RowKit
theorem own:ownKnob Tryd.prog.godebug=none:=by kernel_rfl
theorem lo:laidOutB Tryd.prog=true:=by kernel_rfl
theorem rd:allRead Tryd.prog Tryd.f4.params.toList=true:=by kernel_rfl
theorem e_pow:(Rows.laid_internal_strconv_uint64pow10:DataW Unit)=Lib.tabData .u64 Lib.pow10Tab:=by kernel_rfl
theorem pow {W:World} (h:laidMetH Tryd.prog Rows.layoutWiderUptoRow.laid W):Lib.TabIs Tryd.prog W "internal/strconv.uint64pow10" .u64 Lib.pow10Tab:=by
 have h1:laidMet Tryd.prog Rows.layoutWiderUptoRow.laid W:=h
 replace h1:=laidMet.tail h1
 replace h1:=laidMet.tail h1
 rw [e_pow] at h1
 exact Lib.tabIs_of_head (g:=2) (t:=180) (e:=97) (n:=20) (by kernel_rfl) (by kernel_rfl) (by kernel_rfl) (by kernel_rfl) (by kernel_rfl) (by kernel_rfl) h1
def ren:Go.Shelf.Ren:=⟨fun n=>n,fun n=>if n=5 then 5 else if n=119 then 167 else if n=138 then 170 else if n=139 then 171 else n,fun n=>if n=3 then 0 else if n=4 then 1 else n⟩
theorem e_first:(Rows.laid_unicode_utf8_first:DataW Unit)=Lib.firstData:=by kernel_rfl
theorem e_accept:(Rows.laid_unicode_utf8_acceptRanges:DataW Unit)=Lib.acceptData:=by kernel_rfl
theorem tabs {W:World} (h:laidMetH Tryd.prog Rows.layoutWiderUptoRow.laid W):Lib.Utf8Tabs 0 1 W:=by
 have h1:laidMet Tryd.prog Rows.layoutWiderUptoRow.laid W:=h
 refine Go.Proofs.utf8Tabs_of_readsT (P:=Tryd.prog) (ρ:=ren) ⟨by kernel_rfl,by kernel_rfl,by kernel_rfl,by kernel_rfl⟩ ⟨by kernel_rfl,by kernel_rfl,by kernel_rfl,by kernel_rfl,by kernel_rfl,by kernel_rfl,by kernel_rfl⟩ ?_ ?_
 ·rw [← e_first];exact Lib.laidMet.reads h1 (.tail _ (.tail _ (.tail _ (.tail _ (.head _)))))
 ·rw [← e_accept];exact Lib.laidMet.reads h1 (.tail _ (.tail _ (.tail _ (.head _))))
theorem bulk_pos {H:Type} (d:DataW H):1≤Rows.uptoBulk d:=by
 cases d with
 | lit x=>cases x<;>(unfold Rows.uptoBulk;omega)
 | _=>unfold Rows.uptoBulk;omega
theorem bulk_mem {H:Type}: ∀ (l:List (DataW H)) (d:DataW H),d∈l→Rows.uptoBulk d≤Rows.uptoBulkAll l
 | [],d,h=>by cases h
 | x::r,d,h=>by
  unfold Rows.uptoBulkAll
  rcases List.mem_cons.1 h with rfl | h
  ·omega
  ·have:=bulk_mem r d h;omega
mutual
theorem bulk_up {H:Type}: ∀ d:DataW H,bulk d+1≤Rows.uptoBulk d
 | .slice es sp=>by have:=bulkAll_up es;unfold bulk Rows.uptoBulk;omega
 | .agg ps=>by have:=bulkAll_up ps;unfold bulk Rows.uptoBulk;omega
 | .lit x=>by cases x<;>(unfold bulk Rows.uptoBulk;first | omega | (simp only [];omega))
 | .nil=>by unfold bulk Rows.uptoBulk;omega
 | .ptr d=>by unfold bulk Rows.uptoBulk;omega
 | .iface _ d=>by unfold bulk Rows.uptoBulk;omega
 | .map es=>by unfold bulk Rows.uptoBulk;omega
 | .held _=>by unfold bulk Rows.uptoBulk;omega
theorem bulkAll_up {H:Type}: ∀ l:List (DataW H),bulkAll l+l.length≤Rows.uptoBulkAll l
 | []=>by unfold bulkAll Rows.uptoBulkAll;exact Nat.le_refl _
 | d::r=>by have h1:=bulk_up d;have h2:=bulkAll_up r;unfold bulkAll Rows.uptoBulkAll;rw [List.length_cons];omega
end
theorem bulk_le {H:Type} {ds:List (DataW H)} {d:DataW H} (hk:Rows.uptoSmall H ds=true) (h:d∈ds):Rows.uptoBulk d≤1048576:=by
 have h1:Rows.uptoBulkAll ds≤1048576:=of_decide_eq_true hk
 exact Nat.le_trans (bulk_mem ds d h) h1
theorem bulk_str {H:Type} {l:List UInt8} (h:Rows.uptoBulk (.lit (.string l):DataW H)≤1048576):l.length≤1048576:=by
 unfold Rows.uptoBulk at h;omega
set_option maxRecDepth 100000 in
theorem contract (H:Type) (enc:TypeId×Value→H) (W:World) (base:Nat) (args:Array Value) (ds gs:List (DataW H)) (before:List MemPlace)
  (hval: ∀ (j:Nat) t v,Tryd.f4.params[j]? =some t→args[j]? =some v→Value.okWide Tryd.prog W .any base t v)
  (hW:DataW.Whole enc Tryd.prog Tryd.f4.params.toList Rows.layoutWiderSpec.vars false W args.toList ds gs before) (hz:(DataW.weightsEach Tryd.prog (Tryd.f4.params.toList++[]) (ds++gs)).all (· ≤reachBytes)=true) (hk:Rows.uptoSmall H (ds++gs)=true) (hL:laidMetH Tryd.prog Rows.layoutWiderUptoRow.laid W) (hS:W.ShapedOpen Tryd.prog):
  Calls Tryd.prog 4 args W fun e W'=> ∃ v,e= .returned v∧Rows.layoutWiderSpec.post enc Tryd.prog Tryd.f4 false true false false W args v W':=by
 have hW':=hW
 obtain ⟨p,q,hA0,hV,rfl,_,_⟩:=hW
 have hA:DataW.TrodAll enc Tryd.prog W 0 (fun _=>true) true Tryd.f4.params.toList args.toList ds p:=hA0
 rw [Tryd.params4] at hA hval hz
 obtain ⟨v0,vs0,d0,ds0,p0,q0,hargs,rfl,rfl,h0,r0⟩:=trodAll_cons hA
 obtain ⟨v1,vs1,d1,ds1,p1,q1,rfl,rfl,rfl,h1,r1⟩:=trodAll_cons r0
 obtain ⟨v2,vs2,d2,ds2,p2,q2,rfl,rfl,rfl,h2,r2⟩:=trodAll_cons r1
 obtain ⟨rfl,rfl,rfl⟩:=trodAll_nil r2
 obtain rfl:args= #[v0,v1,v2]:=by cases args;simp_all
 obtain ⟨rfl,rfl⟩:=trodVars_none hV
 obtain ⟨s0,hs0,hd0,_,_⟩:=Go.ChangeMaps.open_string (Tryd.underlying9) (hval 0 9 v0 rfl rfl) h0
 have hb0:=bulk_str (bulk_le (d:= .lit (.string s0.data.toList)) hk (by rw [← hd0];simp))
 obtain ⟨x0,c0,t0,rfl,rp0,wf0⟩:=open_arg (a:= .str) (by kernel_rfl) (hval 0 9 v0 rfl rfl) h0 (light_arg hz (j:=0) rfl rfl)
 have hx0:x0.length≤1048576:=by
  have hr:=rp0.1
  rw [hr] at hs0
  have e:=Value.string.inj hs0
  rw [← e] at hb0
  exact hb0
 obtain ⟨x1,c1,t1,rfl,rp1,wf1,sz1⟩:=open_argB (a:=(.int .i64)) (by kernel_rfl) (hval 1 3 v1 rfl rfl) h1 (light_arg hz (j:=1) rfl rfl)
 have hx1:Sz (.int .i64) x1≤1048576:=by
  have hb1:=bulk_up d1
  have hb2:=bulk_le (d:=d1) hk (by simp)
  omega
 obtain ⟨x2,c2,t2,rfl,rp2,wf2,sz2⟩:=open_argB (a:=(.int .i64)) (by kernel_rfl) (hval 2 3 v2 rfl rfl) h2 (light_arg hz (j:=2) rfl rfl)
 have hx2:Sz (.int .i64) x2≤1048576:=by
  have hb1:=bulk_up d2
  have hb2:=bulk_le (d:=d2) hk (by simp)
  omega
 have ha:ArgsR (phiOf W) [.val .str, .val (.int .i64), .val (.int .i64)] (x0,x1,x2) [sv .str c0,sv (.int .i64) c1,sv (.int .i64) c2] [] []:=ArgsR.val (t:= .str) (r:=[.val (.int .i64), .val (.int .i64)]) (z:=(x0,x1,x2)) (h:=[]) (hs:=[]) t0 rp0 (ArgsR.val (t:=(.int .i64)) (r:=[.val (.int .i64)]) (z:=(x1,x2)) (h:=[]) (hs:=[]) t1 rp1 (ArgsR.val (t:=(.int .i64)) (r:=[]) (z:=x2) (h:=[]) (hs:=[]) t2 rp2 (.nil)))
 have hG:Lasts W Go.Fn.GG:=fun w' hb=>⟨lasts_var (pow hL) w' hb,Go.Fn.tabs_below (tabs hL) hb⟩
 have hp:Go.Fn.foliolaw13_LayoutWider x0 x1 x2=some true:=Go.Fn.wider_law x0 x1 x2 hx0 wf1
 have hq:(Go.Fn.foliolaw13_LayoutWiderEnt.2).f (x0,x1,x2)=some true:=by delta Go.Fn.foliolaw13_LayoutWiderEnt;dsimp only;exact hp
 exact (law_calls (e:=Go.Fn.foliolaw13_LayoutWiderEnt.2) (z:=(x0,x1,x2)) (r:=true) Go.Fn.foliolaw13_LayoutWider_ok rfl rfl hq rfl ha hG).mono fun e W' he=>⟨_,he.1,law_post lo rd rfl rfl Tryd.underlying4 hW' rfl he.2⟩
noncomputable def laidWorld (os:Os):World:=
 let w0:=World.holding Tryd.prog os ⟨#[], #[],[]⟩
 { w0 with heap:=(((((w0.heap.modify 3 fun | .cells _ t frozen=> .cells #[.int .u8 0, .int .u8 1, .int .u8 28, .int .u8 2, .int .u8 29, .int .u8 14, .int .u8 24, .int .u8 3, .int .u8 30, .int .u8 22, .int .u8 20, .int .u8 15, .int .u8 25, .int .u8 17, .int .u8 4, .int .u8 8, .int .u8 31, .int .u8 27, .int .u8 13, .int .u8 23, .int .u8 21, .int .u8 19, .int .u8 16, .int .u8 7, .int .u8 26, .int .u8 12, .int .u8 18, .int .u8 6, .int .u8 11, .int .u8 5, .int .u8 10, .int .u8 9] t frozen | o=>o).modify 4 fun | .cells _ t frozen=> .cells #[.int .u8 0, .int .u8 1, .int .u8 56, .int .u8 2, .int .u8 57, .int .u8 49, .int .u8 28, .int .u8 3, .int .u8 61, .int .u8 58, .int .u8 42, .int .u8 50, .int .u8 38, .int .u8 29, .int .u8 17, .int .u8 4, .int .u8 62, .int .u8 47, .int .u8 59, .int .u8 36, .int .u8 45, .int .u8 43, .int .u8 51, .int .u8 22, .int .u8 53, .int .u8 39, .int .u8 33, .int .u8 30, .int .u8 24, .int .u8 18, .int .u8 12, .int .u8 5, .int .u8 63, .int .u8 55, .int .u8 48, .int .u8 27, .int .u8 60, .int .u8 41, .int .u8 37, .int .u8 16, .int .u8 46, .int .u8 35, .int .u8 44, .int .u8 21, .int .u8 52, .int .u8 32, .int .u8 23, .int .u8 11, .int .u8 54, .int .u8 26, .int .u8 40, .int .u8 15, .int .u8 34, .int .u8 20, .int .u8 31, .int .u8 10, .int .u8 25, .int .u8 14, .int .u8 19, .int .u8 9, .int .u8 13, .int .u8 8, .int .u8 7, .int .u8 6] t frozen | o=>o).modify 2 fun | .cells _ t frozen=> .cells #[.int .u64 1, .int .u64 10, .int .u64 100, .int .u64 1000, .int .u64 10000, .int .u64 100000, .int .u64 1000000, .int .u64 10000000, .int .u64 100000000, .int .u64 1000000000, .int .u64 10000000000, .int .u64 100000000000, .int .u64 1000000000000, .int .u64 10000000000000, .int .u64 100000000000000, .int .u64 1000000000000000, .int .u64 10000000000000000, .int .u64 100000000000000000, .int .u64 1000000000000000000, .int .u64 10000000000000000000] t frozen | o=>o).modify 1 fun | .cells _ t frozen=> .cells #[.int .u8 128, .int .u8 191, .int .u8 160, .int .u8 191, .int .u8 128, .int .u8 159, .int .u8 144, .int .u8 191, .int .u8 128, .int .u8 143, .int .u8 0, .int .u8 0, .int .u8 0, .int .u8 0, .int .u8 0, .int .u8 0, .int .u8 0, .int .u8 0, .int .u8 0, .int .u8 0, .int .u8 0, .int .u8 0, .int .u8 0, .int .u8 0, .int .u8 0, .int .u8 0, .int .u8 0, .int .u8 0, .int .u8 0, .int .u8 0, .int .u8 0, .int .u8 0] t frozen | o=>o).modify 0 fun | .cells _ t frozen=> .cells (match Go.Pinned.utf8First with | .agg l=>(l.map fun d=>match d with | .lit (.int kk z)=>Value.int kk z | _=> .bool false).toArray | _=> #[]) t frozen | o=>o) }
theorem laid_met (os:Os):laidMet Tryd.prog Rows.layoutWiderUptoRow.laid ((laidWorld os).forCall (fun _ _=>0) ⟨#[], #[.string ⟨#[]⟩, .int .i64 0, .int .i64 0],[]⟩).memory:=
 laidMet_of_run' 8 (by kernel_rfl) (by kernel_rfl)
theorem reads (os:Os) {H:Type} (enc:TypeId×Value→H): ∃ places,DataW.whole enc Tryd.prog ((laidWorld os).forCall (fun _ _=>0) ⟨#[], #[.string ⟨#[]⟩, .int .i64 0, .int .i64 0],[]⟩).memory Tryd.f4.params.toList Rows.layoutWiderSpec.vars false #[Value.string ⟨#[]⟩, .int .i64 0, .int .i64 0].toList 8=some ([.lit (.string []), .lit (.int .i64 0), .lit (.int .i64 0)],[],places):=
 ⟨[],by kernel_rfl⟩
set_option maxRecDepth 100000 in
theorem lifted (os:Os) (started:os.Started) (H:Type) (enc:TypeId×Value→H) (F:Stop.Interp):
  ReturnsInHanded {} Tryd.checked os 4 .any ((Rows.OpenSpec.upto Rows.layoutWiderSpec).preRow enc Tryd.prog Tryd.f4 Rows.layoutWiderUptoRow.domain false Rows.layoutWiderUptoRow.laid) (((Rows.OpenSpec.upto Rows.layoutWiderSpec).at F).post enc Tryd.prog Tryd.f4 false true false false):=by
 obtain ⟨places,hx⟩:=reads os enc
 refine returnsInHanded_of_row (C:=Tryd.checked) (s:=(Rows.OpenSpec.upto Rows.layoutWiderSpec)) own started (by kernel_rfl) Tryd.func4
  (witness_row_at (enc:=enc) (C:=Tryd.checked) false (laidWorld os) #[.string ⟨#[]⟩, .int .i64 0, .int .i64 0] rfl (by kernel_rfl) (by kernel_rfl) (by kernel_rfl)
   (OpenSpec.preRow_of_cond 8 hx (by kernel_rfl) (fun k hk=>by cases hk;kernel_rfl) (by kernel_rfl) (laid_met os))) ?_
 intro W base args ds gs before hval hW _ hcond hz hL hS _
 exact contract H enc W base args ds gs before hval hW hz (hcond _ rfl) hL hS
theorem said:Rows.LayoutWiderUptoSaid:=
 OpenClaim.holds_of_cond 4 Tryd.f4 rfl rfl rfl rfl rfl rfl rfl ⟨rfl,rfl,rfl,rfl,rfl⟩ rfl rfl rfl rfl rfl (by kernel_rfl) Tryd.func4 (by kernel_rfl)
  (of_decide_eq_true (by kernel_rfl)) (by unfold Func.isWrapper;first | (rw [if_pos (by decide+kernel)];kernel_rfl) | (rw [if_neg (by decide+kernel)];exact ⟨rfl,rfl⟩))
  (fun os started H enc _ F=>by rw [OpenClaim.pre_eq_preRow];exact lifted os started H enc F)
theorem plain (f:FuncId) (fn:Func) (hf:Tryd.pinned.checked.prog.funcNamed "folio/foliolaw13.LayoutWider" =some f) (hfn:Tryd.pinned.checked.prog.funcs[f]? =some fn):
  false=Tryd.pinned.checked.prog.looks []∧ ∀ (j:Nat) t,fn.params[j]? =some t→Tryd.pinned.checked.prog.wantsStandIn t=false:=by
 obtain rfl:f=4:=Option.some.inj ((show Tryd.prog.funcNamed "folio/foliolaw13.LayoutWider" =some 4 by kernel_rfl).symm.trans hf) |>.symm
 obtain rfl:fn=Tryd.f4:=(Option.some.inj (Tryd.func4.symm.trans hfn)).symm
 refine ⟨by kernel_rfl,fun j t ht=>?_⟩
 rw [Tryd.params4] at ht
 have h:t∈[9,3,3]:=by have:=Array.mem_of_getElem? ht;simpa using this
 have hall:([9,3,3]:List TypeId).all (fun t=>Tryd.prog.wantsStandIn t ==false)=true:=by kernel_rfl
 exact eq_of_beq (List.all_eq_true.1 hall t h)
theorem holds:Rows.LayoutWiderUptoCardSaid:=
 Claim7.holds_tied_plain_at .later [] _ _ _ _ said (fun _ h=>by cases h) (by kernel_rfl) (fun _ h=>by cases h) layoutWiderUpto_row_tie rfl ⟨rfl,rfl⟩ (by kernel_rfl) rfl plain (by kernel_rfl)
end Go.Proofs.YtjnemlopjhdkjaaDoor.layoutWiderUpto
